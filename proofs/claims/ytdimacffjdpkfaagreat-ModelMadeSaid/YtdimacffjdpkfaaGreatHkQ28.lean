import Derived.Test.YtdimacffjdpkfaaGreatHkQ27
import Derived.Test.YtdimacffjdpkfaaGreatHkQ19
import Derived.Test.YtdimacffjdpkfaaGreatHkQ20
set_option linter.unusedSimpArgs false
set_option linter.unusedVariables false
set_option maxRecDepth 20000
namespace Go.Hk.MZ
open Go.Proofs
theorem ti9 : tiOf Tryz.prog 9 = some { size := 1, bytes := 16, zero := some (.str []), k := .str } := by kernel_rfl
attribute [go_sem] ti9
theorem ti20 : tiOf Tryz.prog 20 = some { size := 1, bytes := 16, zero := some (.nili), k := .iface } := by kernel_rfl
attribute [go_sem] ti20
theorem ti80 : tiOf Tryz.prog 80 = some { size := 1, bytes := 8, zero := some (.nilp), k := .ptr 82 } := by kernel_rfl
attribute [go_sem] ti80
theorem ti82 : tiOf Tryz.prog 82 = some { size := 1, bytes := 16, zero := some (.agg [.str []]), k := .struct [(true, 9, 0)] } := by kernel_rfl
attribute [go_sem] ti82
theorem ti88 : tiOf Tryz.prog 88 = some { size := 1, bytes := 8, zero := some (.nilm), k := .map 3 89 } := by kernel_rfl
attribute [go_sem] ti88
theorem ti89 : tiOf Tryz.prog 89 = some { size := 0, bytes := 0, zero := some (.agg []), k := .struct [] } := by kernel_rfl
attribute [go_sem] ti89
theorem ti124 : tiOf Tryz.prog 124 = some { size := 1, bytes := 8, zero := some (.nilf), k := .func } := by kernel_rfl
attribute [go_sem] ti124
theorem w_Copy (G : List ABlk) (T : List (Nat × (Nat × Nat))) (d s : Nat) (os ks : List Nat) (hd : G[d]? = some (.amap (sents os))) (hk : G[s]? = some (.amap (sents ks))) (hds : d ≠ s) (hit : noIt d G = true) (ho : os.Nodup) (hn : ks.Nodup) (hs : shut ⟨G, T⟩ = true) :
    RCall Tryz.prog 62 [.map d, .map s] ⟨G, T⟩ .undef ⟨G.set d (.amap (sents (uni os ks))), T⟩ := by
  have hbl := (List.getElem?_eq_some_iff.1 hd).1
  have hsl := (List.getElem?_eq_some_iff.1 hk).1
  refine RCall.of_wput (fn := Tryz.f62) (Γ := gamg [1] false yNo 0 []) (mu := false) hbl hs (Sound.g Sound.nil) mixed Tryz.func62 rfl (by kernel_rfl) (by simp) (by kernel_rfl) ?_
  have hr := range_at (P := Tryz.prog) (t := 88) (m := ⟨G, T⟩) (b := s) ti88 rfl hk
  simp (disch := first | assumption | omega | exact okR_new | exact okR_one | exact trivial | (simp only [lnA, lnC, lnN]; omega) | (simp only [lnA, lnC, lnN, Nat.reduceAdd])) only [go_sem, e_go, e_cond_bool, e_w_bool, e_step_ite, e_reg_ite, e_regW_ite, e_code_ite, e_block_ite, e_evQ_ite, e_fin_ite, e_pair_ite, Tryz.f62, hr]
  refine w_loopc [] [] (fun x : List Nat × List Nat × Option Nat => x.2.1.length) (fun x => x.1.Nodup ∧ x.2.1.Nodup ∧ (∀ j, (j ∈ x.1 ∨ j ∈ x.2.1) ↔ (j ∈ os ∨ j ∈ ks))) (fun x => ⟨G.set d (.amap (sents x.1)) ++ [.iter s (sents x.2.1) (curN x.2.2)], T⟩)
    (fun x => []) (os, ks, none) (fun _ => rfl) (by kernel_rfl) ⟨ho, hn, fun j => Iff.rfl⟩ ⟨[], [], by simp [curN, set_same hd]⟩ (by simp [HasE, lk]) ?_ ?_
  · intro x hx
    refine ⟨shut_setl hs (by simp [iter_clo, show s < G.length + 1 by omega]), rfl, by simp [cloE, clo]; omega⟩
  rintro ⟨o, left, c⟩ ⟨h1, h2, h3⟩
  simp only at h1 h2 h3
  simp (disch := first | assumption | omega | exact okR_new | exact okR_one | exact trivial | (simp only [lnA, lnC, lnN]; omega) | (simp only [lnA, lnC, lnN, Nat.reduceAdd])) only [go_sem, e_go, e_cond_bool, e_w_bool, e_step_ite, e_reg_ite, e_regW_ite, e_code_ite, e_block_ite, e_evQ_ite, e_fin_ite, e_pair_ite, Tryz.f62]
  refine w_next rfl rfl rfl (m_own0S.trans rfl) ?_ ?_
  · rintro rfl
    simp (disch := first | assumption | omega | exact okR_new | exact okR_one | exact trivial | (simp only [lnA, lnC, lnN]; omega) | (simp only [lnA, lnC, lnN, Nat.reduceAdd])) only [go_sem, e_go, e_cond_bool, e_w_bool, e_step_ite, e_reg_ite, e_regW_ite, e_code_ite, e_block_ite, e_evQ_ite, e_fin_ite, e_pair_ite, Tryz.f62]
    exact ⟨rfl, _, o, rfl, perm_of_mem h1 (uni_nodup ho) fun j => by rw [uni_mem, ← h3 j]; simp⟩
  · intro k left' hp
    have hput := fun l (hl : noIt d l = true) => set_putS (P := Tryz.prog) (t := 88) (T := T) ti88 rfl ti3 rfl hbl hit hl h1 k
    simp (disch := first | assumption | omega | exact okR_new | exact okR_one | exact trivial | (simp only [lnA, lnC, lnN]; omega) | (simp only [lnA, lnC, lnN, Nat.reduceAdd]) | (simp [noIt, noIt1]; omega)) only [go_sem, e_go, e_cond_bool, e_w_bool, e_step_ite, e_reg_ite, e_regW_ite, e_code_ite, e_block_ite, e_evQ_ite, e_fin_ite, e_pair_ite, Tryz.f62, hput]
    refine ⟨(sput o k, left', some k), by simp [hp.length_eq], ⟨sput_nodup h1, (List.nodup_cons.1 (hp.nodup_iff.1 h2)).2, fun j => ?_⟩, ⟨[.cells 0 []], [], by simp [curN]⟩, by simp [HasE]⟩
    have hj := hp.mem_iff (a := j)
    rw [List.mem_cons] at hj
    rw [← h3 j, sput_mem, hj, or_assoc]
noncomputable def iCopy : List AVal → AMem → Option (AVal × AMem) := rimp fun xs m r m' => ∃ (G : List ABlk) (T : List (Nat × (Nat × Nat))) (d s : Nat) (os ks : List Nat), (G[d]? = some (.amap (sents os)) ∧ G[s]? = some (.amap (sents ks)) ∧ d ≠ s ∧ noIt d G = true ∧ os.Nodup ∧ ks.Nodup ∧ shut ⟨G, T⟩ = true) ∧ xs = [.map d, .map s] ∧ m = ⟨G, T⟩ ∧ r = .undef ∧ m' = ⟨G.set d (.amap (sents (uni os ks))), T⟩
theorem iCopy_eq {G : List ABlk} {T : List (Nat × (Nat × Nat))} {d s : Nat} {os ks : List Nat} (h : G[d]? = some (.amap (sents os)) ∧ G[s]? = some (.amap (sents ks)) ∧ d ≠ s ∧ noIt d G = true ∧ os.Nodup ∧ ks.Nodup ∧ shut ⟨G, T⟩ = true) : iCopy [.map d, .map s] ⟨G, T⟩ = some (.undef, ⟨G.set d (.amap (sents (uni os ks))), T⟩) := rimp_eq ⟨G, T, d, s, os, ks, h, rfl, rfl, rfl, rfl⟩ (by rintro _ _ ⟨G', T', d', s', os', ks', h', e, em, rfl, rfl⟩; cases em; cases e; have e1 := h.1.symm.trans h'.1; have e2 := h.2.1.symm.trans h'.2.1; simp only [Option.some.injEq, ABlk.amap.injEq] at e1 e2; rw [sents_inj e1, sents_inj e2]; exact ⟨rfl, rfl⟩)
theorem iCopy_call : ∀ xs m v m', iCopy xs m = some (v, m') → RCall Tryz.prog 62 xs m v m' := fun xs m v m' h0 => by obtain ⟨G, T, d, s, os, ks, h, rfl, rfl, rfl, rfl⟩ := rimp_spec h0; exact w_Copy G T d s os ks h.1 h.2.1 h.2.2.1 h.2.2.2.1 h.2.2.2.2.1 h.2.2.2.2.2.1 h.2.2.2.2.2.2
theorem w_more1 (G : List ABlk) (T : List (Nat × (Nat × Nat))) (c d k : Nat) (os : List Nat) (hc : G[c]? = some (.cells 0 [.map d])) (hd : G[d]? = some (.amap (sents os))) (ho : os.Nodup) (hs : shut ⟨G, T⟩ = true) :
    RCall Tryz.prog 84 [.int .i64 (k : Int), .agg [], .ptr c 0 0] ⟨G, T⟩ (.bool (decide (k ∈ os))) ⟨G, T⟩ := by
  have hcl := (List.getElem?_eq_some_iff.1 hc).1
  have hdl := (List.getElem?_eq_some_iff.1 hd).1
  refine RCall.of_ws (fn := Tryz.f84) (Γ := gam []) (mu := false) (by simp) (by simp) Sound.nil mixed Tryz.func84 rfl (by kernel_rfl) (by simp) (by kernel_rfl) ?_
  have hlook := fun l => set_look (P := Tryz.prog) (t := 88) (m := ⟨G ++ l, T⟩) (b := d) (ks := os) (k := k) ti88 rfl ti3 rfl ti89 rfl (by rw [m_at hdl]; exact hd) ho
  simp (disch := first | assumption | omega | exact okR_new | exact okR_one | exact trivial | (simp only [lnA, lnC, lnN]; omega) | (simp only [lnA, lnC, lnN, Nat.reduceAdd])) only [go_sem, e_go, e_cond_bool, e_w_bool, e_step_ite, e_reg_ite, e_regW_ite, e_code_ite, e_block_ite, e_evQ_ite, e_fin_ite, e_pair_ite, Tryz.f84, hlook, m_at hcl, m_at hdl, hc, hd]
  exact leftM_one hs
noncomputable def iM1 : List AVal → AMem → Option (AVal × AMem) := rimp fun xs m r m' => ∃ (G : List ABlk) (T : List (Nat × (Nat × Nat))) (c d k : Nat) (os : List Nat), (G[c]? = some (.cells 0 [.map d]) ∧ G[d]? = some (.amap (sents os)) ∧ os.Nodup ∧ shut ⟨G, T⟩ = true) ∧ xs = [.int .i64 (k : Int), .agg [], .ptr c 0 0] ∧ m = ⟨G, T⟩ ∧ r = .bool (decide (k ∈ os)) ∧ m' = ⟨G, T⟩
theorem iM1_eq {G : List ABlk} {T : List (Nat × (Nat × Nat))} {c d k : Nat} {os : List Nat} (h : G[c]? = some (.cells 0 [.map d]) ∧ G[d]? = some (.amap (sents os)) ∧ os.Nodup ∧ shut ⟨G, T⟩ = true) : iM1 [.int .i64 (k : Int), .agg [], .ptr c 0 0] ⟨G, T⟩ = some (.bool (decide (k ∈ os)), ⟨G, T⟩) := rimp_eq ⟨G, T, c, d, k, os, h, rfl, rfl, rfl, rfl⟩ (by rintro _ _ ⟨G', T', c', d', k', os', h', e, em, rfl, rfl⟩; cases em; simp only [List.cons.injEq, AVal.int.injEq, AVal.ptr.injEq, true_and, and_true] at e; obtain ⟨e0, e9⟩ := e; subst e9; have e0 := Int.ofNat.inj e0; subst e0; have e1 := h.1.symm.trans h'.1; simp only [Option.some.injEq, ABlk.cells.injEq, List.cons.injEq, AVal.map.injEq, true_and, and_true] at e1; subst e1; have e2 := h.2.1.symm.trans h'.2.1; simp only [Option.some.injEq, ABlk.amap.injEq] at e2; rw [sents_inj e2]; exact ⟨rfl, rfl⟩)
theorem iM1_call : ∀ xs m v m', iM1 xs m = some (v, m') → RCall Tryz.prog 84 xs m v m' := fun xs m v m' h0 => by obtain ⟨G, T, c, d, k, os, h, rfl, rfl, rfl, rfl⟩ := rimp_spec h0; exact w_more1 G T c d k os h.1 h.2.1 h.2.2.1 h.2.2.2
theorem w_Del (G : List ABlk) (T : List (Nat × (Nat × Nat))) (d c o : Nat) (ks os : List Nat) (hd : G[d]? = some (.amap (sents ks))) (hc : G[c]? = some (.cells 0 [.map o])) (ho : G[o]? = some (.amap (sents os))) (hdo : d ≠ o) (hit : noIt d G = true) (hn : ks.Nodup) (hno : os.Nodup) (hs : shut ⟨G, T⟩ = true) :
    RCall Tryz.prog 83 [.map d, .fn 84 [] [.ptr c 0 0]] ⟨G, T⟩ .undef ⟨G.set d (.amap (sents (ks.filter fun k => decide (k ∉ os)))), T⟩ := by
  have hbl := (List.getElem?_eq_some_iff.1 hd).1
  have hcl := (List.getElem?_eq_some_iff.1 hc).1
  have hol := (List.getElem?_eq_some_iff.1 ho).1
  have hdc : d ≠ c := fun e => by subst e; rw [hd] at hc; cases hc
  refine RCall.of_wput (fn := Tryz.f83) (Γ := gamg [1] true yNo 0 [(84, .raw iM1)]) (mu := false) hbl hs (Sound.g (Sound.raw iM1_call Sound.nil)) mixed Tryz.func83 rfl (by kernel_rfl) (by simp) (by kernel_rfl) ?_
  have hr := range_at (P := Tryz.prog) (t := 88) (m := ⟨G, T⟩) (b := d) ti88 rfl hd
  simp (disch := first | assumption | omega | exact okR_new | exact okR_one | exact trivial | (simp only [lnA, lnC, lnN]; omega) | (simp only [lnA, lnC, lnN, Nat.reduceAdd])) only [go_sem, e_go, e_cond_bool, e_w_bool, e_step_ite, e_reg_ite, e_regW_ite, e_code_ite, e_block_ite, e_evQ_ite, e_fin_ite, e_pair_ite, Tryz.f83, hr]
  refine w_loopc [] [] (fun x : List Nat × List Nat × Option Nat => x.2.1.length) (fun x => x.1.Nodup ∧ x.2.1.Nodup ∧ (∀ j, j ∈ x.1 ↔ (j ∈ ks ∧ (j ∈ x.2.1 ∨ j ∉ os))) ∧ ∀ j ∈ x.2.1, j ∈ ks) (fun x => ⟨G.set d (.amap (sents x.1)) ++ [.iter d (sents x.2.1) (curN x.2.2)], T⟩)
    (fun x => []) (ks, ks, none) (fun _ => rfl) (by kernel_rfl) ⟨hn, hn, fun j => by simp; exact fun h => .inl h, fun _ h => h⟩ ⟨[], [], by simp [curN, set_same hd]⟩ (by simp [HasE, lk]) ?_ ?_
  · intro x hx
    refine ⟨shut_setl hs (by simp [iter_clo, show d < G.length + 1 by omega]), rfl, by simp [cloE, clo, cloL]; omega⟩
  rintro ⟨q, left, cu⟩ ⟨h1, h2, h3, h4⟩
  simp only at h1 h2 h3 h4
  simp (disch := first | assumption | omega | exact okR_new | exact okR_one | exact trivial | (simp only [lnA, lnC, lnN]; omega) | (simp only [lnA, lnC, lnN, Nat.reduceAdd])) only [go_sem, e_go, e_cond_bool, e_w_bool, e_step_ite, e_reg_ite, e_regW_ite, e_code_ite, e_block_ite, e_evQ_ite, e_fin_ite, e_pair_ite, Tryz.f83]
  refine w_next rfl rfl rfl (m_own0S.trans rfl) ?_ ?_
  · rintro rfl
    simp (disch := first | assumption | omega | exact okR_new | exact okR_one | exact trivial | (simp only [lnA, lnC, lnN]; omega) | (simp only [lnA, lnC, lnN, Nat.reduceAdd])) only [go_sem, e_go, e_cond_bool, e_w_bool, e_step_ite, e_reg_ite, e_regW_ite, e_code_ite, e_block_ite, e_evQ_ite, e_fin_ite, e_pair_ite, Tryz.f83]
    exact ⟨rfl, _, q, rfl, perm_of_mem h1 (List.Nodup.sublist List.filter_sublist hn) fun j => by rw [h3 j]; simp⟩
  · intro k left' hp
    have hnl := List.nodup_cons.1 (hp.nodup_iff.1 h2)
    have hkl : k ∈ left := hp.mem_iff.2 (by simp)
    have hkq : k ∈ q := (h3 k).2 ⟨h4 k hkl, .inl hkl⟩
    have hcall : iM1 [.int .i64 (k : Int), .agg [], .ptr c 0 0] ⟨G.set d (.amap (sents q)) ++ [.iter d (sents left') (curN (some k)), .cells 0 []], T⟩ = _ := iM1_eq (d := o) (os := os)
      ⟨by rw [m_atS hcl, List.getElem?_set_ne hdc]; exact hc, by rw [m_atS hol, List.getElem?_set_ne hdo]; exact ho, hno, shut_setl hs (by simp [iter_clo, show d < G.length + 2 by omega, cells0_clo])⟩
    simp only [curN, Option.map_some] at hcall
    have hdel := set_delS (P := Tryz.prog) (t := 88) (T := T) (os := q) (k := k) (l := [.iter d (sents left') (some (.int .i64 (k : Int), .agg [])), .cells 0 []]) ti88 rfl ti3 rfl hbl hit h1 hkq (by simp only [List.all_cons, List.all_nil, del_left ti3 rfl hnl.1]; rfl)
    simp only [List.map_cons, List.map_nil, dcur1, if_true] at hdel
    have hj := fun j => hp.mem_iff (a := j)
    simp only [List.mem_cons] at hj
    by_cases hko : k ∈ os
    · simp (disch := first | assumption | omega | exact okR_new | exact okR_one | exact trivial | (simp only [lnA, lnC, lnN]; omega) | (simp only [lnA, lnC, lnN, Nat.reduceAdd])) only [go_sem, e_go, e_cond_bool, e_w_bool, e_step_ite, e_reg_ite, e_regW_ite, e_code_ite, e_block_ite, e_evQ_ite, e_fin_ite, e_pair_ite, Tryz.f83, iM1_eq, hcall, hko, hdel]
      refine ⟨(q.erase k, left', none), by simp [hp.length_eq], ⟨h1.erase k, hnl.2, fun j => ?_, fun j hl => h4 j ((hj j).2 (.inr hl))⟩, ⟨[.cells 0 []], [], by simp [curN, idx_erase]⟩, by simp [HasE]⟩
      rw [h1.mem_erase_iff, h3 j, hj j]
      constructor
      · rintro ⟨a1, a2, a3⟩
        refine ⟨a2, ?_⟩
        rcases a3 with (a3 | a3) | a3
        · exact absurd a3 a1
        · exact .inl a3
        · exact .inr a3
      · rintro ⟨a2, a3⟩
        refine ⟨fun e => ?_, a2, ?_⟩
        · subst e
          rcases a3 with a3 | a3
          · exact hnl.1 a3
          · exact a3 hko
        · rcases a3 with a3 | a3
          · exact .inl (.inr a3)
          · exact .inr a3
    · simp (disch := first | assumption | omega | exact okR_new | exact okR_one | exact trivial | (simp only [lnA, lnC, lnN]; omega) | (simp only [lnA, lnC, lnN, Nat.reduceAdd])) only [go_sem, e_go, e_cond_bool, e_w_bool, e_step_ite, e_reg_ite, e_regW_ite, e_code_ite, e_block_ite, e_evQ_ite, e_fin_ite, e_pair_ite, Tryz.f83, iM1_eq, hcall, hko]
      refine ⟨(q, left', some k), by simp [hp.length_eq], ⟨h1, hnl.2, fun j => ?_, fun j hl => h4 j ((hj j).2 (.inr hl))⟩, ⟨[.cells 0 []], [], by simp [curN]⟩, by simp [HasE]⟩
      rw [h3 j, hj j]
      constructor
      · rintro ⟨a2, (a3 | a3) | a3⟩
        · subst a3; exact ⟨a2, .inr hko⟩
        · exact ⟨a2, .inl a3⟩
        · exact ⟨a2, .inr a3⟩
      · rintro ⟨a2, a3 | a3⟩
        · exact ⟨a2, .inl (.inr a3)⟩
        · exact ⟨a2, .inr a3⟩
noncomputable def iDel : List AVal → AMem → Option (AVal × AMem) := rimp fun xs m r m' => ∃ (G : List ABlk) (T : List (Nat × (Nat × Nat))) (d c o : Nat) (ks os : List Nat), (G[d]? = some (.amap (sents ks)) ∧ G[c]? = some (.cells 0 [.map o]) ∧ G[o]? = some (.amap (sents os)) ∧ d ≠ o ∧ noIt d G = true ∧ ks.Nodup ∧ os.Nodup ∧ shut ⟨G, T⟩ = true) ∧ xs = [.map d, .fn 84 [] [.ptr c 0 0]] ∧ m = ⟨G, T⟩ ∧ r = .undef ∧ m' = ⟨G.set d (.amap (sents (ks.filter fun k => decide (k ∉ os)))), T⟩
theorem iDel_eq {G : List ABlk} {T : List (Nat × (Nat × Nat))} {d c o : Nat} {ks os : List Nat} (h : G[d]? = some (.amap (sents ks)) ∧ G[c]? = some (.cells 0 [.map o]) ∧ G[o]? = some (.amap (sents os)) ∧ d ≠ o ∧ noIt d G = true ∧ ks.Nodup ∧ os.Nodup ∧ shut ⟨G, T⟩ = true) : iDel [.map d, .fn 84 [] [.ptr c 0 0]] ⟨G, T⟩ = some (.undef, ⟨G.set d (.amap (sents (ks.filter fun k => decide (k ∉ os)))), T⟩) := rimp_eq ⟨G, T, d, c, o, ks, os, h, rfl, rfl, rfl, rfl⟩ (by rintro _ _ ⟨G', T', d', c', o', ks', os', h', e, em, rfl, rfl⟩; cases em; cases e; have e0 := h.1.symm.trans h'.1; have e1 := h.2.1.symm.trans h'.2.1; simp only [Option.some.injEq, ABlk.amap.injEq, ABlk.cells.injEq, List.cons.injEq, AVal.map.injEq, true_and, and_true] at e0 e1; subst e1; have e2 := h.2.2.1.symm.trans h'.2.2.1; simp only [Option.some.injEq, ABlk.amap.injEq] at e2; rw [sents_inj e0, sents_inj e2]; exact ⟨rfl, rfl⟩)
theorem iDel_call : ∀ xs m v m', iDel xs m = some (v, m') → RCall Tryz.prog 83 xs m v m' := fun xs m v m' h0 => by obtain ⟨G, T, d, c, o, ks, os, h, rfl, rfl, rfl, rfl⟩ := rimp_spec h0; exact w_Del G T d c o ks os h.1 h.2.1 h.2.2.1 h.2.2.2.1 h.2.2.2.2.1 h.2.2.2.2.2.1 h.2.2.2.2.2.2.1 h.2.2.2.2.2.2.2
theorem iCl_call : ∀ xs m v m', iCl xs m = some (v, m') → LCall Tryz.prog 82 xs m v m' := by
  intro xs m v m' h
  obtain ⟨t, b, es, rfl, hb, rfl, rfl⟩ := iCl_spec h
  exact lcall_clone Tryz.func82 (by kernel_rfl) (by kernel_rfl) (by kernel_rfl) (by kernel_rfl) t b es m hb

theorem w_Clone (G : List ABlk) (T : List (Nat × (Nat × Nat))) (b : Nat) (ks : List Nat) (hd : G[b]? = some (.amap (sents ks))) (hs : shut ⟨G, T⟩ = true) :
    RCall Tryz.prog 63 [.map b] ⟨G, T⟩ (.map G.length) ⟨G ++ [.amap (sents ks)], T⟩ := by
  have hnil : abin Tryz.prog .eql 88 (.map b) .nilm = some (.bool false) := by
    simp [abin, aeq, ti88, aEqOp]
  have hta : ∀ n, atassert Tryz.prog (.ifc 88 (.map n)) 88 false = some (.map n) := fun n => by simp [atassert, tas, ti88]
  refine RCall.of_wset (fn := Tryz.f63) (Γ := gam [(82, .lib iCl)]) (mu := false) hs (Sound.lib iCl_call Sound.nil) mixed Tryz.func63 rfl (by kernel_rfl) (by simp) (by kernel_rfl) ?_
  simp (disch := first | assumption | omega | exact okR_new | exact okR_one | exact trivial | (simp only [lnA, lnC, lnN]; omega) | (simp only [lnA, lnC, lnN, Nat.reduceAdd])) only [go_sem, e_go, e_cond_bool, e_w_bool, e_step_ite, e_reg_ite, e_regW_ite, e_code_ite, e_block_ite, e_evQ_ite, e_fin_ite, e_pair_ite, Tryz.f63, iCl_eq, hnil, hd, hta]
  exact (show SetOf G T ks _ _ from ⟨0, [.amap (sents ks)], ks, rfl, rfl, rfl, .refl _⟩)
noncomputable def iClone : List AVal → AMem → Option (AVal × AMem) := rimp fun xs m r m' => ∃ (G : List ABlk) (T : List (Nat × (Nat × Nat))) (b : Nat) (ks : List Nat), (G[b]? = some (.amap (sents ks)) ∧ shut ⟨G, T⟩ = true) ∧ xs = [.map b] ∧ m = ⟨G, T⟩ ∧ r = .map G.length ∧ m' = ⟨G ++ [.amap (sents ks)], T⟩
theorem iClone_eq {G : List ABlk} {T : List (Nat × (Nat × Nat))} {b : Nat} {ks : List Nat} (h : G[b]? = some (.amap (sents ks)) ∧ shut ⟨G, T⟩ = true) : iClone [.map b] ⟨G, T⟩ = some (.map G.length, ⟨G ++ [.amap (sents ks)], T⟩) := rimp_eq ⟨G, T, b, ks, h, rfl, rfl, rfl, rfl⟩ (by rintro _ _ ⟨G', T', b', ks', h', e, em, rfl, rfl⟩; cases em; cases e; have e0 := h.1.symm.trans h'.1; simp only [Option.some.injEq, ABlk.amap.injEq] at e0; rw [sents_inj e0]; exact ⟨rfl, rfl⟩)
theorem iClone_call : ∀ xs m v m', iClone xs m = some (v, m') → RCall Tryz.prog 63 xs m v m' := fun xs m v m' h0 => by obtain ⟨G, T, b, ks, h, rfl, rfl, rfl, rfl⟩ := rimp_spec h0; exact w_Clone G T b ks h.1 h.2
theorem w_one (G : List ABlk) (T : List (Nat × (Nat × Nat))) (p b A : Nat) (t : List UInt8) (ks : List Nat) (hp : G[p]? = some (.cells 0 [.str t])) (hd : G[b]? = some (.amap (sents ks))) (hn : ks.Nodup) (hA : A < 2 ^ 256) (ht : t.length < 1000000) (hks : ∀ k ∈ ks, k ≤ t.length) (hs : shut ⟨G, T⟩ = true) :
    RCall Tryz.prog 61 [.ptr p 0 0, setV A, .map b] ⟨G, T⟩ (.map G.length) ⟨G ++ [.amap (sents (cset (t.length + 1) fun j => ∃ i, i ∈ ks ∧ i < t.length ∧ A.testBit (t.getD i 0).toNat = true ∧ j = i + 1))], T⟩ := by
  have hpl := (List.getElem?_eq_some_iff.1 hp).1
  have hbl := (List.getElem?_eq_some_iff.1 hd).1
  have hcA : ∀ h k, cloB h k (.cells 0 (setL A)) = true := fun _ _ => rfl
  have hcA' : ∀ h k, cloL h k (setL A) = true := fun _ _ => rfl
  refine RCall.of_wset (fn := Tryz.f61) (Γ := gamg [3] false yNo 0 [(81, .pure iHas)]) (mu := false) hs (Sound.g (Sound.pure iHas_call Sound.nil)) mixed Tryz.func61 rfl (by kernel_rfl) (by simp) (by kernel_rfl) ?_
  have hr := fun l => range_at (P := Tryz.prog) (t := 88) (m := ⟨G ++ l, T⟩) (b := b) ti88 rfl (by rw [m_at hbl]; exact hd)
  simp (disch := first | assumption | omega | exact okR_new | exact okR_one | exact trivial | (simp only [lnA, lnC, lnN]; omega) | (simp only [lnA, lnC, lnN, Nat.reduceAdd])) only [go_sem, e_go, e_cond_bool, e_w_bool, e_step_ite, e_reg_ite, e_regW_ite, e_code_ite, e_block_ite, e_evQ_ite, e_fin_ite, e_pair_ite, Tryz.f61, iHas_eq, hr]
  have hnw : noIt (G.length + 1) G = true := noIt_shut hs (by omega)
  refine w_loopc [] [] (fun x : List Nat × List Nat × Option Nat => x.2.1.length) (fun x => x.1.Nodup ∧ x.2.1.Nodup ∧ (∀ j ∈ x.2.1, j ∈ ks) ∧ (∀ j, j ∈ x.1 ↔ ∃ i, (i ∈ ks ∧ i ∉ x.2.1) ∧ i < t.length ∧ A.testBit (t.getD i 0).toNat = true ∧ j = i + 1)) (fun x => ⟨G ++ [.cells 0 (setL A), .amap (sents x.1), .iter b (sents x.2.1) (curN x.2.2)], T⟩)
    (fun x => []) ([], ks, none) (fun _ => rfl) (by kernel_rfl) ⟨List.nodup_nil, hn, fun _ h => h, fun j => by simp only [List.not_mem_nil, false_iff]; rintro ⟨i, ⟨h1, h2⟩, _⟩; exact h2 h1⟩ ⟨[], [], by simp [curN]; rfl⟩ (by simp [HasE, lk]) ?_ ?_
  · intro x hx
    refine ⟨shut_one hs (fun h hh => by simp [iter_clo, show b < h by simp at hh; omega, sents_cloB, hcA]), rfl, by simp [cloE, clo, setV, hcA']; omega⟩
  rintro ⟨o, left, cu⟩ ⟨h1, h2, h3, h4⟩
  simp only at h1 h2 h3 h4
  simp (disch := first | assumption | omega | exact okR_new | exact okR_one | exact trivial | (simp only [lnA, lnC, lnN]; omega) | (simp only [lnA, lnC, lnN, Nat.reduceAdd])) only [go_sem, e_go, e_cond_bool, e_w_bool, e_step_ite, e_reg_ite, e_regW_ite, e_code_ite, e_block_ite, e_evQ_ite, e_fin_ite, e_pair_ite, Tryz.f61, iHas_eq]
  refine w_next (b := G.length + 2) rfl rfl rfl (m_own.trans rfl) ?_ ?_
  · rintro rfl
    simp (disch := first | assumption | omega | exact okR_new | exact okR_one | exact trivial | (simp only [lnA, lnC, lnN]; omega) | (simp only [lnA, lnC, lnN, Nat.reduceAdd])) only [go_sem, e_go, e_cond_bool, e_w_bool, e_step_ite, e_reg_ite, e_regW_ite, e_code_ite, e_block_ite, e_evQ_ite, e_fin_ite, e_pair_ite, Tryz.f61, iHas_eq]
    exact ⟨1, _, o, rfl, rfl, rfl, perm_of_mem h1 cset_nodup fun j => by rw [h4 j, cset_mem]; simp; intro i _ _ _ _; omega⟩
  · intro k left' hpm
    have hnl := List.nodup_cons.1 (hpm.nodup_iff.1 h2)
    have hj := fun j => hpm.mem_iff (a := j)
    simp only [List.mem_cons] at hj
    have hkk : k ∈ ks := h3 k ((hj k).2 (.inl rfl))
    have hkt := hks k hkk
    have hput := set_putO (P := Tryz.prog) (t := 88) (T := T) (G := G) (j := 1) (l := [.cells 0 (setL A), .amap (sents o), .iter b (sents left') (curN (some k))]) (os := o) ti88 rfl ti3 rfl rfl hnw (by simp [noIt, noIt1]; omega) h1 (k + 1)
    simp only [curN, Option.map_some, List.set_cons_succ, List.set_cons_zero, Int.natCast_add, Int.natCast_one] at hput
    have hst := one_step (fun i => i < t.length ∧ A.testBit (t.getD i 0).toNat = true) hpm hnl.1 hkk (fun j => by rw [h4 j]; simp only [and_assoc])
    have hl3 : ∀ j ∈ left', j ∈ ks := fun j hl => h3 j ((hj j).2 (.inr hl))
    simp only [and_assoc] at hst
    by_cases hlt : k < t.length
    · obtain ⟨ch, hch⟩ : ∃ ch, t.getD k 0 = ch := ⟨_, rfl⟩
      have hg : t[k]? = some ch := by rw [← hch]; simp [hlt]
      have hw : IntKind.i64.wrap (ch.toNat : Int) = (ch.toNat : Int) := IntWalk.i64_in _ (by have := ch.toNat_lt; omega)
      rw [hch] at hst
      have hh : has A (ch.toNat : Int) = A.testBit ch.toNat := has_nat (by have := ch.toNat_lt; omega)
      cases hb : A.testBit ch.toNat
      · simp (disch := first | assumption | omega | exact okR_new | exact okR_one | exact trivial | (simp only [lnA, lnC, lnN]; omega) | (simp only [lnA, lnC, lnN, Nat.reduceAdd])) only [go_sem, e_go, e_cond_bool, e_w_bool, e_step_ite, e_reg_ite, e_regW_ite, e_code_ite, e_block_ite, e_evQ_ite, e_fin_ite, e_pair_ite, Tryz.f61, iHas_eq, hp, m_at hpl, hput, hb, hg, hw, hh]
        exact ⟨(o, left', some k), by simp [hpm.length_eq], ⟨h1, hnl.2, hl3, fun j => by rw [hst.2 (by simp [hb]) j]; simp only [and_assoc]⟩, ⟨[], [], by simp [curN]⟩, by simp [HasE]⟩
      · simp (disch := first | assumption | omega | exact okR_new | exact okR_one | exact trivial | (simp only [lnA, lnC, lnN]; omega) | (simp only [lnA, lnC, lnN, Nat.reduceAdd])) only [go_sem, e_go, e_cond_bool, e_w_bool, e_step_ite, e_reg_ite, e_regW_ite, e_code_ite, e_block_ite, e_evQ_ite, e_fin_ite, e_pair_ite, Tryz.f61, iHas_eq, hp, m_at hpl, hput, hb, hg, hw, hh]
        exact ⟨(sput o (k + 1), left', some k), by simp [hpm.length_eq], ⟨sput_nodup h1, hnl.2, hl3, fun j => by rw [hst.1 ⟨hlt, hb⟩ j]; simp only [and_assoc]⟩, ⟨[], [], by simp [curN]⟩, by simp [HasE]⟩
    · simp (disch := first | assumption | omega | exact okR_new | exact okR_one | exact trivial | (simp only [lnA, lnC, lnN]; omega) | (simp only [lnA, lnC, lnN, Nat.reduceAdd])) only [go_sem, e_go, e_cond_bool, e_w_bool, e_step_ite, e_reg_ite, e_regW_ite, e_code_ite, e_block_ite, e_evQ_ite, e_fin_ite, e_pair_ite, Tryz.f61, iHas_eq, hp, m_at hpl, hput]
      exact ⟨(o, left', some k), by simp [hpm.length_eq], ⟨h1, hnl.2, hl3, fun j => by rw [hst.2 (fun h => hlt h.1) j]; simp only [and_assoc]⟩, ⟨[], [], by simp [curN]⟩, by simp [HasE]⟩
noncomputable def iOne : List AVal → AMem → Option (AVal × AMem) := rimp fun xs m r m' => ∃ (G : List ABlk) (T : List (Nat × (Nat × Nat))) (p b A : Nat) (t : List UInt8) (ks : List Nat), (G[p]? = some (.cells 0 [.str t]) ∧ G[b]? = some (.amap (sents ks)) ∧ ks.Nodup ∧ A < 2 ^ 256 ∧ t.length < 1000000 ∧ (∀ k ∈ ks, k ≤ t.length) ∧ shut ⟨G, T⟩ = true) ∧ xs = [.ptr p 0 0, setV A, .map b] ∧ m = ⟨G, T⟩ ∧ r = .map G.length ∧ m' = ⟨G ++ [.amap (sents (cset (t.length + 1) fun j => ∃ i, i ∈ ks ∧ i < t.length ∧ A.testBit (t.getD i 0).toNat = true ∧ j = i + 1))], T⟩
theorem iOne_eq {G : List ABlk} {T : List (Nat × (Nat × Nat))} {p b A : Nat} {t : List UInt8} {ks : List Nat} (h : G[p]? = some (.cells 0 [.str t]) ∧ G[b]? = some (.amap (sents ks)) ∧ ks.Nodup ∧ A < 2 ^ 256 ∧ t.length < 1000000 ∧ (∀ k ∈ ks, k ≤ t.length) ∧ shut ⟨G, T⟩ = true) : iOne [.ptr p 0 0, setV A, .map b] ⟨G, T⟩ = some (.map G.length, ⟨G ++ [.amap (sents (cset (t.length + 1) fun j => ∃ i, i ∈ ks ∧ i < t.length ∧ A.testBit (t.getD i 0).toNat = true ∧ j = i + 1))], T⟩) := rimp_eq ⟨G, T, p, b, A, t, ks, h, rfl, rfl, rfl, rfl⟩ (by rintro _ _ ⟨G', T', p', b', A', t', ks', h', e, em, rfl, rfl⟩; cases em; simp only [List.cons.injEq, AVal.map.injEq, AVal.ptr.injEq, true_and, and_true] at e; obtain ⟨e1, e2, e3⟩ := e; subst e1; subst e3; have e2 := setV_inj h.2.2.2.1 h'.2.2.2.1 e2; subst e2; have e0 := h.2.1.symm.trans h'.2.1; have e4 := h.1.symm.trans h'.1; simp only [Option.some.injEq, ABlk.amap.injEq, ABlk.cells.injEq, List.cons.injEq, AVal.str.injEq, true_and, and_true] at e0 e4; rw [sents_inj e0, e4]; exact ⟨rfl, rfl⟩)
theorem iOne_call : ∀ xs m v m', iOne xs m = some (v, m') → RCall Tryz.prog 61 xs m v m' := fun xs m v m' h0 => by obtain ⟨G, T, p, b, A, t, ks, h, rfl, rfl, rfl, rfl⟩ := rimp_spec h0; exact w_one G T p b A t ks h.1 h.2.1 h.2.2.1 h.2.2.2.1 h.2.2.2.2.1 h.2.2.2.2.2.1 h.2.2.2.2.2.2
end Go.Hk.MZ
namespace Go.Hk.MZ
open Go.Proofs


theorem w_more (n : Nat) (ih : ∀ xs m v m', iBh n xs m = some (v, m') → RCall Tryz.prog 40 xs m v m') (G : List ABlk) (T : List (Nat × (Nat × Nat))) (p b : Nat) (t : List UInt8) (ks : List Nat) (y : Rx) (most : Int)
    (h : PlOK G T p b t ks) (hy : okX y) (hr : inR y) (hn : sz y < n) (hm1 : -1 ≤ most) (hm2 : most < 1000) :
    RCall Tryz.prog 64 [.ptr p 0 0, rV y, .map b, .int .i64 most] ⟨G, T⟩ (.map G.length) ⟨G ++ [.amap (sents (cset (t.length + 1) (Upto (R t y) ks most)))], T⟩ := by
  have hs := h.shut
  have hpl := (List.getElem?_eq_some_iff.1 h.tx).1
  have hbl := (List.getElem?_eq_some_iff.1 h.at_).1
  have hcl : iClone [.map b] ⟨G ++ [.cells 0 (cR y)], T⟩ = some (.map (G.length + 1), ⟨G ++ [.cells 0 (cR y), .amap (sents ks)], T⟩) := by
    have := iClone_eq (G := G ++ [.cells 0 (cR y)]) (T := T) (b := b) (ks := ks) ⟨by rw [m_at hbl]; exact h.at_, shut_one hs fun _ _ => by simp [cR_clo0]⟩
    simpa using this
  refine RCall.of_wset (fn := Tryz.f64) (Γ := gam [(62, .raw iCopy), (63, .raw iClone), (83, .raw iDel), (84, .raw iM1), (40, .raw (iBh n))]) (mu := false) hs (Sound.raw iCopy_call (Sound.raw iClone_call (Sound.raw iDel_call (Sound.raw iM1_call (Sound.raw ih Sound.nil))))) mixed Tryz.func64 rfl (by kernel_rfl) (by simp) (by kernel_rfl) ?_
  simp (disch := first | assumption | omega | exact okR_new | exact okR_one | exact trivial | (simp only [lnA, lnC, lnN]; omega) | (simp only [lnA, lnC, lnN, Nat.reduceAdd])) only [go_sem, e_go, e_cond_bool, e_w_bool, e_step_ite, e_reg_ite, e_regW_ite, e_code_ite, e_block_ite, e_evQ_ite, e_fin_ite, e_pair_ite, Tryz.f64, iCopy_eq, iClone_eq, iDel_eq, iM1_eq, l_s_cR, hcl]
  refine w_loop [] [10, 3] (fun x : Nat × Nat × List Nat × List Nat × List (List Nat) => (t.length + 1 - x.2.2.1.length) + (if x.2.2.2.1 = [] then 0 else 1))
    (fun x => x.2.2.1.Nodup ∧ x.2.2.2.1.Nodup ∧ (∀ j, j ∈ x.2.2.1 ↔ Dle (R t y) ks x.1 j) ∧ (∀ j, j ∈ x.2.2.2.1 ↔ Fresh (R t y) ks x.1 j) ∧ (moM G y x.2.2.1 x.2.2.2.2)[x.2.1]? = some (.amap (sents x.2.2.2.1)) ∧ (most < 0 ∨ (x.1 : Int) ≤ most) ∧ x.1 ≤ x.2.2.1.length + (if x.2.2.2.1 = [] then 1 else 0))
    (fun x => ⟨moM G y x.2.2.1 x.2.2.2.2, T⟩)
    (fun x => [(10, .map x.2.1), (3, .int .i64 (most - (x.1 : Nat)))]) (0, b, ks, ks, []) (fun _ => rfl) (by kernel_rfl) ⟨h.nd, h.nd, fun j => Dle.zero.symm, fun j => by simp [Fresh, Dle.zero], (moM_lt hbl).trans h.at_, by omega, Nat.zero_le _⟩ rfl (by simp [HasE, lk]) ?_ (by intro x hx; exact ⟨by simp [moM_len], Nat.le_refl _⟩)
  rintro ⟨q, nb, os, ns, Ls⟩ ⟨h1, h2, h3, h4, h5, h6, h7⟩
  simp only at h1 h2 h3 h4 h5 h6 h7
  have hRl : ∀ i j, R t y i j → i < t.length + 1 → j < t.length + 1 := fun i j hij hi => by have := R_le y i j hij (by omega); omega
  have hDl : ∀ q j, Dle (R t y) ks q j → j < t.length + 1 := fun q j hd => Dle.le hRl (fun k hk => by have := h.le k hk; omega) hd
  have hol : os.length ≤ t.length + 1 := nodup_len h1 fun j hj => hDl q j ((h3 j).1 hj)
  have e0 := moM_0 (G := G) (y := y) (os := os) (Ls := Ls)
  have e2 := fun os Ls => moM_2 (G := G) (y := y) (os := os) (Ls := Ls)
  have hfin : (∀ j, Upto (R t y) ks most j ↔ Dle (R t y) ks q j) → SetOf G T (cset (t.length + 1) (Upto (R t y) ks most)) (.map (G.length + 1)) ⟨moM G y os Ls, T⟩ := fun hu =>
    ⟨1, _, os, rfl, rfl, rfl, perm_of_mem h1 cset_nodup fun j => by rw [cset_mem, hu j, h3 j]; exact ⟨fun hj => ⟨hDl q j hj, hj⟩, fun hj => hj.2⟩⟩
  by_cases hz : most - (q : Int) = 0
  · simp (disch := first | assumption | omega | exact okR_new | exact okR_one | exact trivial | (simp only [lnA, lnC, lnN]; omega) | (simp only [lnA, lnC, lnN, Nat.reduceAdd])) only [go_sem, e_go, e_cond_bool, e_w_bool, e_step_ite, e_reg_ite, e_regW_ite, e_code_ite, e_block_ite, e_evQ_ite, e_fin_ite, e_pair_ite, Tryz.f64, iCopy_eq, iClone_eq, iDel_eq, iM1_eq, l_s_cR, h5, e0, e2]
    obtain rfl : most = (q : Int) := by omega
    exact hfin fun j => upto_most
  · by_cases hns : ns = []
    · have hd0 : decide (0 < ((sents ns).length : Int)) = false := by rw [hns]; rfl
      simp (disch := first | assumption | omega | exact okR_new | exact okR_one | exact trivial | (simp only [lnA, lnC, lnN]; omega) | (simp only [lnA, lnC, lnN, Nat.reduceAdd])) only [go_sem, e_go, e_cond_bool, e_w_bool, e_step_ite, e_reg_ite, e_regW_ite, e_code_ite, e_block_ite, e_evQ_ite, e_fin_ite, e_pair_ite, Tryz.f64, iCopy_eq, iClone_eq, iDel_eq, iM1_eq, l_s_cR, h5, e0, e2, hd0]
      exact hfin fun j => upto_done h6 fun j hj => by have := (h4 j).2 hj; rw [hns] at this; cases this
    · have hd0 : decide (0 < ((sents ns).length : Int)) = true := by
        rw [sents_len]
        have : 0 < ns.length := List.length_pos_iff.2 hns
        simp; omega
      generalize hS : cset (t.length + 1) (Im (R t y) ns) = S at *
      obtain ⟨N, hN⟩ : ∃ N, S.filter (fun k => decide (k ∉ os)) = N := ⟨_, rfl⟩
      have hSn : S.Nodup := by rw [← hS]; exact cset_nodup
      have hNn : N.Nodup := by rw [← hN]; exact List.Nodup.sublist List.filter_sublist hSn
      have hNm : ∀ j, j ∈ N ↔ Fresh (R t y) ks (q + 1) j := fun j => by
        rw [← hN, List.mem_filter, ← hS, cset_mem, ← fresh_next h4]
        simp only [decide_not, Bool.not_eq_true', decide_eq_false_iff_not]
        rw [h3 j]
        constructor
        · rintro ⟨⟨_, a⟩, b⟩; exact ⟨a, b⟩
        · rintro ⟨a, b⟩
          refine ⟨⟨?_, a⟩, b⟩
          obtain ⟨i, i1, i2⟩ := a
          exact hRl i j i2 (hDl q i ((h4 i).1 i1).1)
      have hUm : ∀ j, j ∈ uni os N ↔ Dle (R t y) ks (q + 1) j := fun j => by
        rw [uni_mem, h3 j, hNm j]
        constructor
        · rintro (a | a)
          · exact a.mono (by omega)
          · exact a.1
        · intro a
          by_cases hd : Dle (R t y) ks q j
          · exact .inl hd
          · exact .inr ⟨a, .inr hd⟩
      obtain ⟨nb', hnb⟩ : ∃ nb', nb' = (moM G y os Ls).length := ⟨_, rfl⟩
      have hnl : G.length + 3 ≤ nb' := by rw [hnb, moM_len]; omega
      have hB : iBh n [.ptr p 0 0, rV y, .map nb] ⟨moM G y os Ls, T⟩ = some (.map nb', ⟨moM G y os (Ls ++ [S]), T⟩) := by
        have := iBh_eq (n := n) (G := moM G y os Ls) (T := T) (p := p) (b := nb) (t := t) (ks := ns) (x := y) ⟨(moM_lt hpl).trans h.tx, h5, h2, h.len, fun k hk => by have := hDl q k ((h4 k).1 hk).1; omega, moM_shut hs⟩ hy hr hn
        rw [this, hS, moM_app, hnb]
      have hD : iDel [.map nb', .fn 84 [] [.ptr (G.length + 2) 0 0]] ⟨moM G y os (Ls ++ [S]), T⟩ = some (.undef, ⟨moM G y os (Ls ++ [N]), T⟩) := by
        have := iDel_eq (G := moM G y os (Ls ++ [S])) (T := T) (d := nb') (c := G.length + 2) (o := G.length + 1) (ks := S) (os := os) ⟨by rw [hnb]; exact moM_last, moM_2, moM_1, by omega, moM_noIt hs (by omega), hSn, h1, moM_shut hs⟩
        rw [this, hN, hnb, moM_setL]
      have hC : iCopy [.map (G.length + 1), .map nb'] ⟨moM G y os (Ls ++ [N]), T⟩ = some (.undef, ⟨moM G y (uni os N) (Ls ++ [N]), T⟩) := by
        have := iCopy_eq (G := moM G y os (Ls ++ [N])) (T := T) (d := G.length + 1) (s := nb') (os := os) (ks := N) ⟨moM_1, by rw [hnb]; exact moM_last, by omega, moM_noIt hs (by omega), h1, hNn, moM_shut hs⟩
        rw [this, moM_set1]
      have hw : IntKind.i64.wrap (most - (q : Int) - 1) = most - (q : Int) - 1 := IntWalk.i64_in _ (by
        have := h.len
        split at h7 <;> omega)
      simp (disch := first | assumption | omega | exact okR_new | exact okR_one | exact trivial | (simp only [lnA, lnC, lnN]; omega) | (simp only [lnA, lnC, lnN, Nat.reduceAdd])) only [go_sem, e_go, e_cond_bool, e_w_bool, e_step_ite, e_reg_ite, e_regW_ite, e_code_ite, e_block_ite, e_evQ_ite, e_fin_ite, e_pair_ite, Tryz.f64, iCopy_eq, iClone_eq, iDel_eq, iM1_eq, l_s_cR, h5, e0, e2, hd0, hB, hD, hC, hw]
      have hUn := uni_nodup (ks := N) h1
      have hul : (uni os N).length ≤ t.length + 1 := nodup_len hUn fun j hj => hDl _ j ((hUm j).1 hj)
      have hgr : os.length ≤ (uni os N).length ∧ (N ≠ [] → os.length + 1 ≤ (uni os N).length) := by
        have hsub : ∀ j ∈ os, j ∈ uni os N := fun j hj => uni_mem.2 (.inl hj)
        have hp2 : (uni os N).Perm (os ++ N) := perm_of_mem hUn (by
          rw [List.nodup_append]
          refine ⟨h1, hNn, fun a ha b hb e => ?_⟩
          subst e
          rw [← hN, List.mem_filter] at hb
          simp at hb
          exact hb.2 ha) fun j => by rw [uni_mem, List.mem_append]
        rw [hp2.length_eq, List.length_append]
        refine ⟨by omega, fun hne => ?_⟩
        have := List.length_pos_iff.2 hne
        omega
      refine ⟨(q + 1, nb', uni os N, N, Ls ++ [N]), ?_, ⟨hUn, hNn, hUm, hNm, ?_, ?_, ?_⟩, rfl, ?_⟩
      · simp only [hns, if_false]
        by_cases hNe : N = []
        · simp only [hNe, if_true]
          have := hgr.1
          rw [hNe] at this
          omega
        · simp only [hNe, if_false]
          have := hgr.2 hNe
          omega
      · rw [hnb]
        have := moM_last (G := G) (y := y) (os := uni os N) (Ls := Ls) (l := N)
        rw [moM_len] at this ⊢
        exact this
      · omega
      · simp only [hns, if_false] at h7
        by_cases hNe : N = []
        · simp only [hNe, if_true]
          have := hgr.1
          rw [hNe] at this
          omega
        · simp only [hNe, if_false]
          have := hgr.2 hNe
          omega
      · have e : most - (q : Int) - 1 = most - ((q + 1 : Nat) : Int) := by omega
        simp [HasE, lk]
        omega
end Go.Hk.MZ
