/- Layer 5: again and again. -/
import Derived.Test.YtdimacffjdpkfaaHkQ33
import Derived.Test.YtdimacffjdpkfaaHkQ24
set_option linter.unusedSimpArgs false
set_option linter.unusedVariables false
set_option maxRecDepth 20000
namespace Go.Hk.M
open Go.Proofs


theorem w_more (n : Nat) (ih : ∀ xs m v m', iBh n xs m = some (v, m') → RCall Try.prog 38 xs m v m') (G : List ABlk) (T : List (Nat × (Nat × Nat))) (p b : Nat) (t : List UInt8) (ks : List Nat) (y : Rx) (most : Int)
    (h : PlOK G T p b t ks) (hy : okX y) (hr : inR y) (hn : sz y < n) (hm1 : -1 ≤ most) (hm2 : most < 1000) :
    RCall Try.prog 64 [.ptr p 0 0, rV y, .map b, .int .i64 most] ⟨G, T⟩ (.map G.length) ⟨G ++ [.amap (sents (cset (t.length + 1) (Upto (R t y) ks most)))], T⟩ := by
  have hs := h.shut
  have hpl := (List.getElem?_eq_some_iff.1 h.tx).1
  have hbl := (List.getElem?_eq_some_iff.1 h.at_).1
  have hcl : iClone [.map b] ⟨G ++ [.cells 0 (cR y)], T⟩ = some (.map (G.length + 1), ⟨G ++ [.cells 0 (cR y), .amap (sents ks)], T⟩) := by
    have := iClone_eq (G := G ++ [.cells 0 (cR y)]) (T := T) (b := b) (ks := ks) ⟨by rw [m_at hbl]; exact h.at_, shut_one hs fun _ _ => by simp [cR_clo0]⟩
    simpa using this
  refine RCall.of_wset (fn := Try.f64) (Γ := gam [(62, .raw iCopy), (63, .raw iClone), (81, .raw iDel), (82, .raw iM1), (38, .raw (iBh n))]) (mu := false) hs (Sound.raw iCopy_call (Sound.raw iClone_call (Sound.raw iDel_call (Sound.raw iM1_call (Sound.raw ih Sound.nil))))) mixed Try.func64 rfl (by kernel_rfl) (by simp) (by kernel_rfl) ?_
  simp (disch := first | assumption | omega | exact okR_new | exact okR_one | exact trivial | (simp only [List.length_append, List.length_cons, List.length_nil]; omega) | (simp only [List.length_append, List.length_cons, List.length_nil, Nat.reduceAdd])) only [go_sem, e_go, e_cond_bool, e_w_bool, e_step_ite, e_reg_ite, e_regW_ite, e_code_ite, e_block_ite, e_evQ_ite, e_fin_ite, e_pair_ite, Try.f64, iCopy_eq, iClone_eq, iDel_eq, iM1_eq, l_s_cR, hcl]
  refine w_loop [] [10, 3] (fun x : Nat × Nat × List Nat × List Nat × List (List Nat) => (t.length + 1 - x.2.2.1.length) + (if x.2.2.2.1 = [] then 0 else 1))
    (fun x => x.2.2.1.Nodup ∧ x.2.2.2.1.Nodup ∧ (∀ j, j ∈ x.2.2.1 ↔ Dle (R t y) ks x.1 j) ∧ (∀ j, j ∈ x.2.2.2.1 ↔ Fresh (R t y) ks x.1 j) ∧ (moM G y x.2.2.1 x.2.2.2.2)[x.2.1]? = some (.amap (sents x.2.2.2.1)) ∧ (most < 0 ∨ (x.1 : Int) ≤ most) ∧ x.1 ≤ x.2.2.1.length + (if x.2.2.2.1 = [] then 1 else 0))
    (fun x => ⟨moM G y x.2.2.1 x.2.2.2.2, T⟩)
    (fun x => [(10, .map x.2.1), (3, .int .i64 (most - (x.1 : Nat)))]) (0, b, ks, ks, []) (fun _ => rfl) (by kernel_rfl) ⟨h.nd, h.nd, fun j => Dle.zero.symm, fun j => by simp [Fresh, Dle.zero], (moM_lt hbl).trans h.at_, by omega, Nat.zero_le _⟩ rfl (by simp [HasE, lk]) ?_ (by intro x hx; exact ⟨by simp [moM_len], Nat.le_refl _⟩)
  rintro ⟨q, nb, os, ns, Ls⟩ ⟨h1, h2, h3, h4, h5, h6, h7⟩
  simp only at h1 h2 h3 h4 h5 h6 h7
  have hRl : ∀ i j, R t y i j → i < t.length + 1 → j < t.length + 1 := fun i j hij hi => by have := R_le y i j hij (by omega); omega
  have hDl : ∀ q j, Dle (R t y) ks q j → j < t.length + 1 := fun q j hd => Dle.le hRl (fun k hk => by have := h.le k hk; omega) hd
  have hol : os.length ≤ t.length + 1 := nodup_len h1 fun j hj => hDl q j ((h3 j).1 hj)
  have e0 := moM_0 (G := G) (y := y) (os := os) (Ls := Ls)
  have e2 := fun os Ls => moM_2 (G := G) (y := y) (os := os) (Ls := Ls)
  have hfin : (∀ j, Upto (R t y) ks most j ↔ Dle (R t y) ks q j) → SetOf G T (cset (t.length + 1) (Upto (R t y) ks most)) (.map (G.length + 1)) ⟨moM G y os Ls, T⟩ := fun hu =>
    ⟨1, _, os, rfl, rfl, rfl, perm_of_mem h1 cset_nodup fun j => by rw [cset_mem, hu j, h3 j]; exact ⟨fun hj => ⟨hDl q j hj, hj⟩, fun hj => hj.2⟩⟩
  by_cases hz : most - (q : Int) = 0
  · simp (disch := first | assumption | omega | exact okR_new | exact okR_one | exact trivial | (simp only [List.length_append, List.length_cons, List.length_nil]; omega) | (simp only [List.length_append, List.length_cons, List.length_nil, Nat.reduceAdd])) only [go_sem, e_go, e_cond_bool, e_w_bool, e_step_ite, e_reg_ite, e_regW_ite, e_code_ite, e_block_ite, e_evQ_ite, e_fin_ite, e_pair_ite, Try.f64, iCopy_eq, iClone_eq, iDel_eq, iM1_eq, l_s_cR, h5, e0, e2]
    obtain rfl : most = (q : Int) := by omega
    exact hfin fun j => upto_most
  · by_cases hns : ns = []
    · have hd0 : decide (0 < ((sents ns).length : Int)) = false := by rw [hns]; rfl
      simp (disch := first | assumption | omega | exact okR_new | exact okR_one | exact trivial | (simp only [List.length_append, List.length_cons, List.length_nil]; omega) | (simp only [List.length_append, List.length_cons, List.length_nil, Nat.reduceAdd])) only [go_sem, e_go, e_cond_bool, e_w_bool, e_step_ite, e_reg_ite, e_regW_ite, e_code_ite, e_block_ite, e_evQ_ite, e_fin_ite, e_pair_ite, Try.f64, iCopy_eq, iClone_eq, iDel_eq, iM1_eq, l_s_cR, h5, e0, e2, hd0]
      exact hfin fun j => upto_done h6 fun j hj => by have := (h4 j).2 hj; rw [hns] at this; cases this
    · have hd0 : decide (0 < ((sents ns).length : Int)) = true := by
        rw [sents_len]
        have : 0 < ns.length := List.length_pos_iff.2 hns
        simp; omega
      generalize hS : cset (t.length + 1) (Im (R t y) ns) = S at *
      obtain ⟨N, hN⟩ : ∃ N, S.filter (fun k => decide (k ∉ os)) = N := ⟨_, rfl⟩
      have hSn : S.Nodup := by rw [← hS]; exact cset_nodup
      have hNn : N.Nodup := by rw [← hN]; exact List.Nodup.sublist List.filter_sublist hSn
      have hNm : ∀ j, j ∈ N ↔ Fresh (R t y) ks (q + 1) j := fun j => by
        rw [← hN, List.mem_filter, ← hS, cset_mem, ← fresh_next h4]
        simp only [decide_not, Bool.not_eq_true', decide_eq_false_iff_not]
        rw [h3 j]
        constructor
        · rintro ⟨⟨_, a⟩, b⟩; exact ⟨a, b⟩
        · rintro ⟨a, b⟩
          refine ⟨⟨?_, a⟩, b⟩
          obtain ⟨i, i1, i2⟩ := a
          exact hRl i j i2 (hDl q i ((h4 i).1 i1).1)
      have hUm : ∀ j, j ∈ uni os N ↔ Dle (R t y) ks (q + 1) j := fun j => by
        rw [uni_mem, h3 j, hNm j]
        constructor
        · rintro (a | a)
          · exact a.mono (by omega)
          · exact a.1
        · intro a
          by_cases hd : Dle (R t y) ks q j
          · exact .inl hd
          · exact .inr ⟨a, .inr hd⟩
      obtain ⟨nb', hnb⟩ : ∃ nb', nb' = (moM G y os Ls).length := ⟨_, rfl⟩
      have hnl : G.length + 3 ≤ nb' := by rw [hnb, moM_len]; omega
      have hB : iBh n [.ptr p 0 0, rV y, .map nb] ⟨moM G y os Ls, T⟩ = some (.map nb', ⟨moM G y os (Ls ++ [S]), T⟩) := by
        have := iBh_eq (n := n) (G := moM G y os Ls) (T := T) (p := p) (b := nb) (t := t) (ks := ns) (x := y) ⟨(moM_lt hpl).trans h.tx, h5, h2, h.len, fun k hk => by have := hDl q k ((h4 k).1 hk).1; omega, moM_shut hs⟩ hy hr hn
        rw [this, hS, moM_app, hnb]
      have hD : iDel [.map nb', .fn 82 [] [.ptr (G.length + 2) 0 0]] ⟨moM G y os (Ls ++ [S]), T⟩ = some (.undef, ⟨moM G y os (Ls ++ [N]), T⟩) := by
        have := iDel_eq (G := moM G y os (Ls ++ [S])) (T := T) (d := nb') (c := G.length + 2) (o := G.length + 1) (ks := S) (os := os) ⟨by rw [hnb]; exact moM_last, moM_2, moM_1, by omega, moM_noIt hs (by omega), hSn, h1, moM_shut hs⟩
        rw [this, hN, hnb, moM_setL]
      have hC : iCopy [.map (G.length + 1), .map nb'] ⟨moM G y os (Ls ++ [N]), T⟩ = some (.undef, ⟨moM G y (uni os N) (Ls ++ [N]), T⟩) := by
        have := iCopy_eq (G := moM G y os (Ls ++ [N])) (T := T) (d := G.length + 1) (s := nb') (os := os) (ks := N) ⟨moM_1, by rw [hnb]; exact moM_last, by omega, moM_noIt hs (by omega), h1, hNn, moM_shut hs⟩
        rw [this, moM_set1]
      have hw : IntKind.i64.wrap (most - (q : Int) - 1) = most - (q : Int) - 1 := IntWalk.i64_in _ (by
        have := h.len
        split at h7 <;> omega)
      simp (disch := first | assumption | omega | exact okR_new | exact okR_one | exact trivial | (simp only [List.length_append, List.length_cons, List.length_nil]; omega) | (simp only [List.length_append, List.length_cons, List.length_nil, Nat.reduceAdd])) only [go_sem, e_go, e_cond_bool, e_w_bool, e_step_ite, e_reg_ite, e_regW_ite, e_code_ite, e_block_ite, e_evQ_ite, e_fin_ite, e_pair_ite, Try.f64, iCopy_eq, iClone_eq, iDel_eq, iM1_eq, l_s_cR, h5, e0, e2, hd0, hB, hD, hC, hw]
      have hUn := uni_nodup (ks := N) h1
      have hul : (uni os N).length ≤ t.length + 1 := nodup_len hUn fun j hj => hDl _ j ((hUm j).1 hj)
      have hgr : os.length ≤ (uni os N).length ∧ (N ≠ [] → os.length + 1 ≤ (uni os N).length) := by
        have hsub : ∀ j ∈ os, j ∈ uni os N := fun j hj => uni_mem.2 (.inl hj)
        have hp2 : (uni os N).Perm (os ++ N) := perm_of_mem hUn (by
          rw [List.nodup_append]
          refine ⟨h1, hNn, fun a ha b hb e => ?_⟩
          subst e
          rw [← hN, List.mem_filter] at hb
          simp at hb
          exact hb.2 ha) fun j => by rw [uni_mem, List.mem_append]
        rw [hp2.length_eq, List.length_append]
        refine ⟨by omega, fun hne => ?_⟩
        have := List.length_pos_iff.2 hne
        omega
      refine ⟨(q + 1, nb', uni os N, N, Ls ++ [N]), ?_, ⟨hUn, hNn, hUm, hNm, ?_, ?_, ?_⟩, rfl, ?_⟩
      · simp only [hns, if_false]
        by_cases hNe : N = []
        · simp only [hNe, if_true]
          have := hgr.1
          rw [hNe] at this
          omega
        · simp only [hNe, if_false]
          have := hgr.2 hNe
          omega
      · rw [hnb]
        have := moM_last (G := G) (y := y) (os := uni os N) (Ls := Ls) (l := N)
        rw [moM_len] at this ⊢
        exact this
      · omega
      · simp only [hns, if_false] at h7
        by_cases hNe : N = []
        · simp only [hNe, if_true]
          have := hgr.1
          rw [hNe] at this
          omega
        · simp only [hNe, if_false]
          have := hgr.2 hNe
          omega
      · have e : most - (q : Int) - 1 = most - ((q + 1 : Nat) : Int) := by omega
        simp [HasE, lk]
        omega
end Go.Hk.M
