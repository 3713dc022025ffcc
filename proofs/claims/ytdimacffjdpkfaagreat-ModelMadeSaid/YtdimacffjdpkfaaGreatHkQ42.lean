import Derived.Test.YtdimacffjdpkfaaGreatHkQ41
import Derived.Test.YtdimacffjdpkfaaGreatHkQ23
set_option linter.unusedSimpArgs false
set_option linter.unusedVariables false
set_option maxRecDepth 20000
namespace Go.Hk.MZ
open Go.Proofs

theorem iEndsRN {x : Rx} {s : List UInt8} {i : Nat} (h : okX x ∧ s.length < 9223372036854775808) : iEndsR [rV x, .str s, .int .i64 (i : Nat)] = some (.sl .no (endsN x s i).length (cN (endsN x s i))) := by
  rw [iEndsR_eq h, slc_N (endsL_N x s i)]
theorem w_May8 (s : Sp) (w : List UInt8) (h : okSp s ∧ w.length < 1000000000) : PCall Tryz.prog 26 [sV s, .str w] (.bool (rightS s && decide ((w.length : Int) ≤ 10000))) := by
  obtain ⟨hs, hl⟩ := h
  have hcs := cSp_eq s
  refine PCall.of_w (fn := Tryz.f26) (Γ := gam [(43, .pure iR6R)]) (mu := false) (Sound.pure iR6R_call Sound.nil) mixed Tryz.func26 rfl (by kernel_rfl) (by simp) (by kernel_rfl) ?_
  cases hd : rightS s
  · simp (disch := first | assumption | omega | exact okR_new | exact okR_one | exact trivial | (simp only [lnA, lnC, lnN]; omega) | (simp only [lnA, lnC, lnN, Nat.reduceAdd])) only [go_sem, e_go, e_cond_bool, e_w_bool, e_step_ite, e_reg_ite, e_regW_ite, e_code_ite, e_block_ite, e_evQ_ite, e_fin_ite, e_pair_ite, Tryz.f26, iR6R_eq, hcs, hd]
    try rfl
  · simp (disch := first | assumption | omega | exact okR_new | exact okR_one | exact trivial | (simp only [lnA, lnC, lnN]; omega) | (simp only [lnA, lnC, lnN, Nat.reduceAdd])) only [go_sem, e_go, e_cond_bool, e_w_bool, e_step_ite, e_reg_ite, e_regW_ite, e_code_ite, e_block_ite, e_evQ_ite, e_fin_ite, e_pair_ite, Tryz.f26, iR6R_eq, hcs, hd]
    try simp
noncomputable def iMy8 : List AVal → Option AVal := pimp fun xs r => ∃ (u : Sp) (w : List UInt8), (okSp u ∧ w.length < 1000000000) ∧ xs = [sV u, .str w] ∧ r = .bool (rightS u && decide ((w.length : Int) ≤ 10000))
theorem iMy8_eq {u : Sp} {w : List UInt8} (h : okSp u ∧ w.length < 1000000000) : iMy8 [sV u, .str w] = some (.bool (rightS u && decide ((w.length : Int) ≤ 10000))) := pimp_eq ⟨u, w, h, rfl, rfl⟩ (by rintro _ ⟨u', w', h', e, rfl⟩; have e0 := sV_inj h.1 h'.1 (List.cons.inj e).1; have e1 := AVal.str.inj (List.cons.inj (List.cons.inj e).2).1; subst e0 e1; rfl)
theorem iMy8_call : ∀ xs v, iMy8 xs = some v → PCall Tryz.prog 26 xs v := fun xs v h0 => by obtain ⟨u, w, h, rfl, rfl⟩ := pimp_spec h0; exact w_May8 u w h
structure RuR (r : Ru) : Prop where
  ok : okRu r
  rx : rightT r.rx = true
  tr : r.trail.k = 0 ∨ rightT r.trail = true
theorem w_longR (r : Ru) (w : List UInt8) (i : Nat) (h : RuR r ∧ w.length ≤ 10000 ∧ i ≤ w.length) : PCall Tryz.prog 30 [ruV r, .str w, .int .i64 (i : Nat)] (.int .i64 (longP r (w.drop i) : Nat)) := by
  obtain ⟨⟨ho, hrx, htr⟩, hl, hi⟩ := h
  have hE1 := iEndsRN (x := r.rx) (s := w) (i := i) ⟨ho.rx, by omega⟩
  have hE2 := fun k => iEndsRN (x := r.trail) (s := w) (i := k) ⟨ho.tr, by omega⟩
  have hL1 := endsN_len r.rx (w.drop i) 0
  have hc := cRu_eq r
  rw [endsN_drop hrx hl hi] at hE1
  have hLle : ∀ a ∈ endsN r.rx (w.drop i) 0, a ≤ (w.drop i).length := fun a ha => (endsN_le ha).2
  rw [List.length_map] at hE1
  unfold longP
  rw [List.length_drop] at hL1 hLle
  generalize endsN r.rx (w.drop i) 0 = L at *
  refine PCall.of_w (fn := Tryz.f30) (Γ := gam [(45, .pure iEndsR)]) (mu := false) (Sound.pure iEndsR_call Sound.nil) mixed Tryz.func30 rfl (by kernel_rfl) (by simp) (by kernel_rfl) ?_
  by_cases hk : r.trail.k = 0
  · have hd : decide (r.trail.k = 0) = true := decide_eq_true hk
    have hfo : L.foldl (longStep r (w.drop i)) 0 = L.getLastD 0 := by
      rw [← foldl_last]
      congr 1
      funext m h
      simp [longStep, hk]
    rw [hfo]
    rcases List.eq_nil_or_concat L with rfl | ⟨M, z, rfl⟩
    · simp (disch := first | assumption | omega | exact okR_new | exact okR_one | exact trivial | (simp only [lnA, lnC, lnN]; omega) | (simp only [lnA, lnC, lnN, Nat.reduceAdd])) only [go_sem, e_go, e_cond_bool, e_w_bool, e_step_ite, e_reg_ite, e_regW_ite, e_code_ite, e_block_ite, e_evQ_ite, e_fin_ite, e_pair_ite, Tryz.f30, iEndsR_eq, hc, hE1, hd]
      rfl
    · rw [List.concat_eq_append] at *
      have hz : (M ++ [z]).getLastD 0 = z := by simp
      have hatz := cN_get (l := (M ++ [z]).map (· + i)) (i := M.length) (v := z + i) (by simp)
      have hzl := hLle z (by simp)
      rw [hz]
      rw [List.length_append, List.length_singleton] at hE1 hL1
      have hd1 : decide (((M.length + 1 : Nat) : Int) = 0) = false := decide_eq_false (by omega)
      have hw1 : IntKind.i64.wrap (((M.length + 1 : Nat) : Int) - 1) = (M.length : Nat) := by rw [IntWalk.i64_in _ (by omega)]; omega
      have hw2 : IntKind.i64.wrap (((z + i : Nat) : Int) - (i : Int)) = (z : Nat) := by rw [IntWalk.i64_in _ (by omega)]; omega
      simp (disch := first | assumption | omega | exact okR_new | exact okR_one | exact trivial | (simp only [lnA, lnC, lnN]; omega) | (simp only [lnA, lnC, lnN, Nat.reduceAdd])) only [go_sem, e_go, e_cond_bool, e_w_bool, e_step_ite, e_reg_ite, e_regW_ite, e_code_ite, e_block_ite, e_evQ_ite, e_fin_ite, e_pair_ite, Tryz.f30, iEndsR_eq, hc, hE1, hd, hd1, hw1, hatz, hw2]
  · have hd : decide (r.trail.k = 0) = false := decide_eq_false hk
    have htr : rightT r.trail = true := by rcases htr with h | h; exact absurd h hk; exact h
    simp (disch := first | assumption | omega | exact okR_new | exact okR_one | exact trivial | (simp only [lnA, lnC, lnN]; omega) | (simp only [lnA, lnC, lnN, Nat.reduceAdd])) only [go_sem, e_go, e_cond_bool, e_w_bool, e_step_ite, e_reg_ite, e_regW_ite, e_code_ite, e_block_ite, e_evQ_ite, e_fin_ite, e_pair_ite, Tryz.f30, iEndsR_eq, hc, hE1, hd]
    refine w_loop [] [8, 9] (fun k : Nat => L.length - k) (fun k => k ≤ L.length) (fun k => ⟨[.cells 0 (cRu r)], []⟩)
      (fun k => [(8, .int .i64 ((L.take k).foldl (longStep r (w.drop i)) 0 : Nat)), (9, .int .i64 (k : Nat))]) 0 (fun _ => rfl) (by kernel_rfl) (Nat.zero_le _) (by simp only [hc]) (by simp [HasE, lk]) ?_
    intro k hkl
    by_cases hlt : k < L.length
    · have hg : L[k]? = some L[k] := by simp [hlt]
      have hat := cN_get (l := L.map (· + i)) (i := k) (v := L[k] + i) (by simp [hlt])
      have hnx : (L.take (k + 1)).foldl (longStep r (w.drop i)) 0 = longStep r (w.drop i) ((L.take k).foldl (longStep r (w.drop i)) 0) L[k] := by
        rw [List.take_succ_eq_append_getElem hlt, List.foldl_append]; rfl
      have hal := hLle _ (List.getElem_mem hlt)
      generalize L[k] = a at *
      have hw : IntKind.i64.wrap ((k : Int) + 1) = (k : Int) + 1 := IntWalk.i64_in _ (by omega)
      have hsh := endsN_shift (x := r.trail) (s := w) (a := i) (b := a) htr hl (by omega)
      rw [Nat.add_comm i a] at hsh
      have hE := hE2 (a + i)
      rw [hsh, List.length_map] at hE
      have hML := endsN_len r.trail (w.drop i) a
      have hMle : ∀ b ∈ endsN r.trail (w.drop i) a, b ≤ (w.drop i).length := fun b hb => (endsN_le hb).2
      have hst : longStep r (w.drop i) ((L.take k).foldl (longStep r (w.drop i)) 0) a = if 0 < a ∧ 0 < (endsN r.trail (w.drop i) a).length then max ((L.take k).foldl (longStep r (w.drop i)) 0) ((endsN r.trail (w.drop i) a).getLastD 0) else (L.take k).foldl (longStep r (w.drop i)) 0 := by unfold longStep; rw [if_neg hk]
      rw [List.length_drop] at hML hMle
      generalize endsN r.trail (w.drop i) a = M at *
      generalize (L.take k).foldl (longStep r (w.drop i)) 0 = q at *
      by_cases h0 : 0 < a
      · have hd0 : decide (((a + i : Nat) : Int) = (i : Nat)) = false := decide_eq_false (by omega)
        rcases List.eq_nil_or_concat M with rfl | ⟨M', z, rfl⟩
        · rw [if_neg (by simp)] at hst
          simp (disch := first | assumption | omega | exact okR_new | exact okR_one | exact trivial | (simp only [lnA, lnC, lnN]; omega) | (simp only [lnA, lnC, lnN, Nat.reduceAdd])) only [go_sem, e_go, e_cond_bool, e_w_bool, e_step_ite, e_reg_ite, e_regW_ite, e_code_ite, e_block_ite, e_evQ_ite, e_fin_ite, e_pair_ite, Tryz.f30, iEndsR_eq, hc, hat, hw, hE, hd0]
          exact ⟨k + 1, dn hlt, hlt, by simp only [hc], by simp [HasE, lk, hnx, hst]⟩
        · rw [if_pos (by simp [h0])] at hst
          rw [List.concat_eq_append] at hE hML hst hMle
          have hz : (M' ++ [z]).getLastD 0 = z := by simp
          rw [hz] at hst
          have hatz := cN_get (l := (M' ++ [z]).map (· + i)) (i := M'.length) (v := z + i) (by simp)
          have hzl := hMle z (by simp)
          rw [List.length_append, List.length_singleton] at hE hML
          have hd1 : decide ((0 : Int) < ((M'.length + 1 : Nat) : Int)) = true := decide_eq_true (by omega)
          have hw1 : IntKind.i64.wrap (((M'.length + 1 : Nat) : Int) - 1) = (M'.length : Nat) := by rw [IntWalk.i64_in _ (by omega)]; omega
          have hw2 : IntKind.i64.wrap (((z + i : Nat) : Int) - (i : Int)) = (z : Nat) := by rw [IntWalk.i64_in _ (by omega)]; omega
          have hmx : imax (q : Nat) (z : Nat) = (max q z : Nat) := by unfold imax; split <;> omega
          simp (disch := first | assumption | omega | exact okR_new | exact okR_one | exact trivial | (simp only [lnA, lnC, lnN]; omega) | (simp only [lnA, lnC, lnN, Nat.reduceAdd])) only [go_sem, e_go, e_cond_bool, e_w_bool, e_step_ite, e_reg_ite, e_regW_ite, e_code_ite, e_block_ite, e_evQ_ite, e_fin_ite, e_pair_ite, Tryz.f30, iEndsR_eq, hc, hat, hw, hE, hd0, hd1, hw1, hw2, hatz, hmx]
          exact ⟨k + 1, dn hlt, hlt, by simp only [hc], by simp [HasE, lk, hnx, hst]⟩
      · have hd0 : decide (((a + i : Nat) : Int) = (i : Nat)) = true := decide_eq_true (by omega)
        rw [if_neg (fun h => h0 h.1)] at hst
        simp (disch := first | assumption | omega | exact okR_new | exact okR_one | exact trivial | (simp only [lnA, lnC, lnN]; omega) | (simp only [lnA, lnC, lnN, Nat.reduceAdd])) only [go_sem, e_go, e_cond_bool, e_w_bool, e_step_ite, e_reg_ite, e_regW_ite, e_code_ite, e_block_ite, e_evQ_ite, e_fin_ite, e_pair_ite, Tryz.f30, iEndsR_eq, hc, hat, hw, hE, hd0]
        exact ⟨k + 1, dn hlt, hlt, by simp only [hc], by simp [HasE, lk, hnx, hst]⟩
    · have hi' : k = L.length := by omega
      subst hi'
      rw [List.take_length]
      simp (disch := first | assumption | omega | exact okR_new | exact okR_one | exact trivial | (simp only [lnA, lnC, lnN]; omega) | (simp only [lnA, lnC, lnN, Nat.reduceAdd])) only [go_sem, e_go, e_cond_bool, e_w_bool, e_step_ite, e_reg_ite, e_regW_ite, e_code_ite, e_block_ite, e_evQ_ite, e_fin_ite, e_pair_ite, Tryz.f30, iEndsR_eq, hc]
noncomputable def iLgR : List AVal → Option AVal := pimp fun xs r => ∃ (u : Ru) (w : List UInt8) (i : Nat), (RuR u ∧ w.length ≤ 10000 ∧ i ≤ w.length) ∧ xs = [ruV u, .str w, .int .i64 (i : Nat)] ∧ r = .int .i64 (longP u (w.drop i) : Nat)
theorem iLgR_eq {u : Ru} {w : List UInt8} {i : Nat} (h : RuR u ∧ w.length ≤ 10000 ∧ i ≤ w.length) : iLgR [ruV u, .str w, .int .i64 (i : Nat)] = some (.int .i64 (longP u (w.drop i) : Nat)) := pimp_eq ⟨u, w, i, h, rfl, rfl⟩ (by rintro _ ⟨u', w', i', h', e, rfl⟩; have e0 := ruV_inj h.1.ok h'.1.ok (List.cons.inj e).1; have er := (List.cons.inj e).2; have e1 := AVal.str.inj (List.cons.inj er).1; have e2 := Int.ofNat.inj (AVal.int.inj (List.cons.inj (List.cons.inj er).2).1).2; subst e0 e1 e2; rfl)
theorem iLgR_call : ∀ xs v, iLgR xs = some v → PCall Tryz.prog 30 xs v := fun xs v h0 => by obtain ⟨u, w, i, h, rfl, rfl⟩ := pimp_spec h0; exact w_longR u w i h
theorem w_HeadR (r : Ru) (s : List UInt8) (h : RuR r ∧ s.length ≤ 10000) : PCall Tryz.prog 27 [ruV r, .str s] (.int .i64 (headP r s : Nat)) := by
  obtain ⟨⟨ho, hrx, htr⟩, hl⟩ := h
  have hc := cRu_eq r
  have hM := iMatR_eq (x := r.rx) (s := s) ⟨ho.rx, by omega⟩
  refine PCall.of_w (fn := Tryz.f27) (Γ := gam [(44, .pure iMatR)]) (mu := false) (Sound.pure iMatR_call Sound.nil) mixed Tryz.func27 rfl (by kernel_rfl) (by simp) (by kernel_rfl) ?_
  by_cases hk : r.trail.k = 0
  · have hd : decide (r.trail.k = 0) = true := decide_eq_true hk
    have hH : headP r s = if s.length ∈ endsN r.rx s 0 then s.length else 0 := by unfold headP; rw [if_pos hk]
    have hmm : decide ((s.length : Int) ∈ endsL r.rx s 0) = decide (s.length ∈ endsN r.rx s 0) := by
      rw [decide_eq_decide, match_iff hrx hl, endsN_mem hrx hl (Nat.zero_le _)]
    rw [hmm] at hM
    rw [hH]
    by_cases h0 : s = []
    · subst h0
      simp (disch := first | assumption | omega | exact okR_new | exact okR_one | exact trivial | (simp only [lnA, lnC, lnN]; omega) | (simp only [lnA, lnC, lnN, Nat.reduceAdd])) only [go_sem, e_go, e_cond_bool, e_w_bool, e_step_ite, e_reg_ite, e_regW_ite, e_code_ite, e_block_ite, e_evQ_ite, e_fin_ite, e_pair_ite, Tryz.f27, iMatR_eq, hc, hd]
      simp
    · have hne : decide (s = []) = false := decide_eq_false h0
      by_cases hin : s.length ∈ endsN r.rx s 0
      · rw [decide_eq_true hin] at hM
        rw [if_pos hin]
        simp (disch := first | assumption | omega | exact okR_new | exact okR_one | exact trivial | (simp only [lnA, lnC, lnN]; omega) | (simp only [lnA, lnC, lnN, Nat.reduceAdd])) only [go_sem, e_go, e_cond_bool, e_w_bool, e_step_ite, e_reg_ite, e_regW_ite, e_code_ite, e_block_ite, e_evQ_ite, e_fin_ite, e_pair_ite, Tryz.f27, iMatR_eq, hc, hd, hne, hM]
      · rw [decide_eq_false hin] at hM
        rw [if_neg hin]
        simp (disch := first | assumption | omega | exact okR_new | exact okR_one | exact trivial | (simp only [lnA, lnC, lnN]; omega) | (simp only [lnA, lnC, lnN, Nat.reduceAdd])) only [go_sem, e_go, e_cond_bool, e_w_bool, e_step_ite, e_reg_ite, e_regW_ite, e_code_ite, e_block_ite, e_evQ_ite, e_fin_ite, e_pair_ite, Tryz.f27, iMatR_eq, hc, hd, hne, hM]
        try rfl
  · have hd : decide (r.trail.k = 0) = false := decide_eq_false hk
    have htr : rightT r.trail = true := by rcases htr with h | h; exact absurd h hk; exact h
    have hspec := head_at hrx htr hk hl
    have hP : ∀ h, Parts r s h ↔ R s r.rx 0 h ∧ R s r.trail h s.length := fun h => Iff.rfl
    generalize headP r s = H at *
    have hM1 := fun h => iMatR_eq (x := r.rx) (s := s.take h) ⟨ho.rx, by simp; omega⟩
    have hM2 := fun h => iMatR_eq (x := r.trail) (s := s.drop h) ⟨ho.tr, by simp; omega⟩
    simp (disch := first | assumption | omega | exact okR_new | exact okR_one | exact trivial | (simp only [lnA, lnC, lnN]; omega) | (simp only [lnA, lnC, lnN, Nat.reduceAdd])) only [go_sem, e_go, e_cond_bool, e_w_bool, e_step_ite, e_reg_ite, e_regW_ite, e_code_ite, e_block_ite, e_evQ_ite, e_fin_ite, e_pair_ite, Tryz.f27, iMatR_eq, hc, hd]
    refine w_loop [4] [5] (fun h : Nat => h) (fun h => h ≤ s.length ∧ ∀ h', h < h' → ¬ Parts r s h') (fun h => ⟨[.cells 0 (cRu r)], []⟩)
      (fun h => [(5, .int .i64 (h : Nat))]) s.length (fun _ => rfl) (by kernel_rfl) ⟨Nat.le_refl _, fun h' h1 h2 => by have := R_le r.rx 0 h' h2.1 (Nat.zero_le _); omega⟩ (by simp only [hc]) (by simp [HasE, lk]) ?_
    rintro h ⟨hh, hq⟩
    cases h with
    | zero =>
      have hH : H = 0 := by
        rcases hspec with ⟨h1, _⟩ | ⟨h1, _⟩
        · rcases Nat.eq_zero_or_pos H with h2 | h2
          · exact h2
          · exact absurd h1 (hq H h2)
        · exact h1
      rw [hH]
      simp (disch := first | assumption | omega | exact okR_new | exact okR_one | exact trivial | (simp only [lnA, lnC, lnN]; omega) | (simp only [lnA, lnC, lnN, Nat.reduceAdd])) only [go_sem, e_go, e_cond_bool, e_w_bool, e_step_ite, e_reg_ite, e_regW_ite, e_code_ite, e_block_ite, e_evQ_ite, e_fin_ite, e_pair_ite, Tryz.f27, iMatR_eq, hc]
      try rfl
    | succ h =>
      have hc1 := match_cut (x := r.rx) (s := s) (a := 0) (n := h + 1) hrx hl (Nat.zero_le _) hh
      have hc2 := match_cut (x := r.trail) (s := s) (a := h + 1) (n := s.length) htr hl hh (Nat.le_refl _)
      rw [List.drop_zero, Nat.sub_zero] at hc1
      have hdl : List.take (s.length - (h + 1)) (List.drop (h + 1) s) = s.drop (h + 1) := List.take_of_length_le (by simp)
      rw [hdl] at hc2
      have hM1 := hM1 (h + 1)
      have hM2 := hM2 (h + 1)
      have d0 : decide ((0 : Int) < ((h + 1 : Nat) : Int)) = true := decide_eq_true (by omega)
      have hw : IntKind.i64.wrap (((h + 1 : Nat) : Int) - 1) = (h : Nat) := by rw [IntWalk.i64_in _ (by omega)]; omega
      have hsub : h + 1 - 0 = h + 1 := rfl
      by_cases p1 : R s r.rx 0 (h + 1)
      · rw [decide_eq_true (hc1.2 p1)] at hM1
        by_cases p2 : R s r.trail (h + 1) s.length
        · rw [decide_eq_true (hc2.2 p2)] at hM2
          have hH : H = h + 1 := by
            rcases hspec with ⟨h1, h2⟩ | ⟨_, h2⟩
            · rcases Nat.lt_trichotomy H (h + 1) with h3 | h3 | h3
              · exact absurd ⟨p1, p2⟩ (h2 (h + 1) h3)
              · exact h3
              · exact absurd h1 (hq H h3)
            · exact absurd ⟨p1, p2⟩ (h2 (h + 1))
          rw [hH]
          simp (disch := first | assumption | omega | exact okR_new | exact okR_one | exact trivial | (simp only [lnA, lnC, lnN]; omega) | (simp only [lnA, lnC, lnN, Nat.reduceAdd])) only [go_sem, e_go, e_cond_bool, e_w_bool, e_step_ite, e_reg_ite, e_regW_ite, e_code_ite, e_block_ite, e_evQ_ite, e_fin_ite, e_pair_ite, Tryz.f27, iMatR_eq, hc, d0, hM1, hM2, hdl, List.drop_zero, hsub]
        · rw [decide_eq_false (fun h => p2 (hc2.1 h))] at hM2
          simp (disch := first | assumption | omega | exact okR_new | exact okR_one | exact trivial | (simp only [lnA, lnC, lnN]; omega) | (simp only [lnA, lnC, lnN, Nat.reduceAdd])) only [go_sem, e_go, e_cond_bool, e_w_bool, e_step_ite, e_reg_ite, e_regW_ite, e_code_ite, e_block_ite, e_evQ_ite, e_fin_ite, e_pair_ite, Tryz.f27, iMatR_eq, hc, d0, hM1, hM2, hdl, hw, List.drop_zero, hsub]
          exact ⟨h, Nat.lt_succ_self h, ⟨by omega, fun h' h1 h2 => by
            by_cases e : h' = h + 1
            · subst e; exact p2 h2.2
            · exact hq h' (by omega) h2⟩, by simp only [hc], by simp [HasE, lk]⟩
      · rw [decide_eq_false (fun h => p1 (hc1.1 h))] at hM1
        simp (disch := first | assumption | omega | exact okR_new | exact okR_one | exact trivial | (simp only [lnA, lnC, lnN]; omega) | (simp only [lnA, lnC, lnN, Nat.reduceAdd])) only [go_sem, e_go, e_cond_bool, e_w_bool, e_step_ite, e_reg_ite, e_regW_ite, e_code_ite, e_block_ite, e_evQ_ite, e_fin_ite, e_pair_ite, Tryz.f27, iMatR_eq, hc, d0, hM1, hw, List.drop_zero, hsub]
        exact ⟨h, Nat.lt_succ_self h, ⟨by omega, fun h' h1 h2 => by
          by_cases e : h' = h + 1
          · subst e; exact p1 h2.1
          · exact hq h' (by omega) h2⟩, by simp only [hc], by simp [HasE, lk]⟩
noncomputable def iHeR : List AVal → Option AVal := pimp fun xs r => ∃ (u : Ru) (s : List UInt8), (RuR u ∧ s.length ≤ 10000) ∧ xs = [ruV u, .str s] ∧ r = .int .i64 (headP u s : Nat)
theorem iHeR_eq {u : Ru} {s : List UInt8} (h : RuR u ∧ s.length ≤ 10000) : iHeR [ruV u, .str s] = some (.int .i64 (headP u s : Nat)) := pimp_eq ⟨u, s, h, rfl, rfl⟩ (by rintro _ ⟨u', s', h', e, rfl⟩; have e0 := ruV_inj h.1.ok h'.1.ok (List.cons.inj e).1; have e1 := AVal.str.inj (List.cons.inj (List.cons.inj e).2).1; subst e0 e1; rfl)
theorem iHeR_call : ∀ xs v, iHeR xs = some v → PCall Tryz.prog 27 xs v := fun xs v h0 => by obtain ⟨u, s, h, rfl, rfl⟩ := pimp_spec h0; exact w_HeadR u s h
end Go.Hk.MZ
set_option maxHeartbeats 1000000
namespace Go.Hk.MZ
open Go.Proofs

theorem w_EofR (s : Sp) (c : Int) (h : okSp s) : PCall Tryz.prog 28 [sV s, .int .i64 c] (.int .i64 (eofP s c)) := by
  have hcs := cSp_eq s
  have hl := h.nr
  have hl2 := h.nc
  refine PCall.of_w (fn := Tryz.f28) (Γ := gam [(29, .pure iActR)]) (mu := false) (Sound.pure iActR_call Sound.nil) mixed Tryz.func28 rfl (by kernel_rfl) (by simp) (by kernel_rfl) ?_
  simp (disch := first | assumption | omega | exact okR_new | exact okR_one | exact trivial | (simp only [lnA, lnC, lnN]; omega) | (simp only [lnA, lnC, lnN, Nat.reduceAdd])) only [go_sem, e_go, e_cond_bool, e_w_bool, e_step_ite, e_reg_ite, e_regW_ite, e_code_ite, e_block_ite, e_evQ_ite, e_fin_ite, e_pair_ite, Tryz.f28, iActR_eq, hcs]
  refine w_loop [4] [5] (fun i : Nat => s.rules.length - i) (fun i => i ≤ s.rules.length ∧ eofTo s c i = none) (fun i => ⟨[.cells 0 (cSp s)], []⟩)
    (fun i => [(5, .int .i64 (i : Nat))]) 0 (fun _ => rfl) (by kernel_rfl) ⟨Nat.zero_le _, rfl⟩ (by simp only [hcs]) (by simp [HasE, lk]) ?_
  rintro i ⟨hi, hq⟩
  by_cases hlt : i < s.rules.length
  · have hg : s.rules[i]? = some s.rules[i] := by simp [hlt]
    have hr19 := fl_get cRu_len hg (j := 19) (by omega)
    simp only [cRu_eq, List.getElem?_cons_succ, List.getElem?_cons_zero] at hr19
    have hle : i * 22 + 22 ≤ s.rules.length * 22 := by omega
    have hw : IntKind.i64.wrap ((i : Int) + 1) = (i : Int) + 1 := IntWalk.i64_in _ (by omega)
    have hnx : eofTo s c (i + 1) = if (s.rules[i].eof && activeS s (i : Int) c) = true then some i else none := by
      unfold eofTo at hq ⊢
      rw [List.range_succ, List.find?_append, hq]
      simp only [List.find?_cons, List.find?_nil, hg, Option.none_or]
      cases s.rules[i].eof && activeS s (i : Int) c <;> rfl
    have hA := iActR_eq (u := s) (i := (i : Nat)) (c := c) h
    generalize s.rules[i] = r at *
    cases he : r.eof
    · rw [he] at hnx
      simp (disch := first | assumption | omega | exact okR_new | exact okR_one | exact trivial | (simp only [lnA, lnC, lnN]; omega) | (simp only [lnA, lnC, lnN, Nat.reduceAdd])) only [go_sem, e_go, e_cond_bool, e_w_bool, e_step_ite, e_reg_ite, e_regW_ite, e_code_ite, e_block_ite, e_evQ_ite, e_fin_ite, e_pair_ite, Tryz.f28, iActR_eq, hcs, hr19, he, hw]
      exact ⟨i + 1, dn hlt, ⟨hlt, by rw [hnx]; rfl⟩, by simp only [hcs], by simp [HasE, lk]⟩
    · rw [he] at hnx
      cases ha : activeS s (i : Nat) c
      · rw [ha] at hnx hA
        simp (disch := first | assumption | omega | exact okR_new | exact okR_one | exact trivial | (simp only [lnA, lnC, lnN]; omega) | (simp only [lnA, lnC, lnN, Nat.reduceAdd])) only [go_sem, e_go, e_cond_bool, e_w_bool, e_step_ite, e_reg_ite, e_regW_ite, e_code_ite, e_block_ite, e_evQ_ite, e_fin_ite, e_pair_ite, Tryz.f28, iActR_eq, hcs, hr19, he, hw, hA]
        exact ⟨i + 1, dn hlt, ⟨hlt, by rw [hnx]; rfl⟩, by simp only [hcs], by simp [HasE, lk]⟩
      · rw [ha] at hnx hA
        have hfin : eofP s c = (i : Nat) := by
          unfold eofP
          have : eofTo s c s.rules.length = some i := by
            unfold eofTo at hnx ⊢
            have e : List.range s.rules.length = List.range (i + 1) ++ (List.range (s.rules.length - (i + 1))).map ((i + 1) + ·) := by
              rw [← List.range_add]
              congr 1; omega
            rw [e, List.find?_append, hnx]; rfl
          rw [this]
        simp (disch := first | assumption | omega | exact okR_new | exact okR_one | exact trivial | (simp only [lnA, lnC, lnN]; omega) | (simp only [lnA, lnC, lnN, Nat.reduceAdd])) only [go_sem, e_go, e_cond_bool, e_w_bool, e_step_ite, e_reg_ite, e_regW_ite, e_code_ite, e_block_ite, e_evQ_ite, e_fin_ite, e_pair_ite, Tryz.f28, iActR_eq, hcs, hr19, he, hw, hA, hfin]
  · have hi' : i = s.rules.length := by omega
    subst hi'
    have hfin : eofP s c = -1 := by unfold eofP; rw [hq]
    simp (disch := first | assumption | omega | exact okR_new | exact okR_one | exact trivial | (simp only [lnA, lnC, lnN]; omega) | (simp only [lnA, lnC, lnN, Nat.reduceAdd])) only [go_sem, e_go, e_cond_bool, e_w_bool, e_step_ite, e_reg_ite, e_regW_ite, e_code_ite, e_block_ite, e_evQ_ite, e_fin_ite, e_pair_ite, Tryz.f28, iActR_eq, hcs, hfin]
noncomputable def iEfR : List AVal → Option AVal := pimp fun xs r => ∃ (u : Sp) (c : Int), (okSp u) ∧ xs = [sV u, .int .i64 c] ∧ r = .int .i64 (eofP u c)
theorem iEfR_eq {u : Sp} {c : Int} (h : okSp u) : iEfR [sV u, .int .i64 c] = some (.int .i64 (eofP u c)) := pimp_eq ⟨u, c, h, rfl, rfl⟩ (by rintro _ ⟨u', c', h', e, rfl⟩; have e0 := sV_inj h h' (List.cons.inj e).1; have e1 := (AVal.int.inj (List.cons.inj (List.cons.inj e).2).1).2; subst e0 e1; rfl)
theorem iEfR_call : ∀ xs v, iEfR xs = some v → PCall Tryz.prog 28 xs v := fun xs v h0 => by obtain ⟨u, c, h, rfl, rfl⟩ := pimp_spec h0; exact w_EofR u c h
theorem bol_cases {w : List UInt8} {k : Nat} (hk : k ≤ w.length) : k = 0 ∧ bolB w k = true ∨ ∃ j b, k = j + 1 ∧ w[j]? = some b ∧ bolB w k = decide (((b.toNat : Nat) : Int) = 10) := by
  rcases Nat.eq_zero_or_pos k with rfl | h0
  · exact .inl ⟨rfl, rfl⟩
  · obtain ⟨j, rfl⟩ : ∃ j, k = j + 1 := ⟨k - 1, by omega⟩
    have hj : j < w.length := by omega
    refine .inr ⟨j, w[j], rfl, by simp [hj], ?_⟩
    unfold bolB
    rw [decide_eq_false (by omega : ¬ j + 1 = 0), Bool.false_or, Nat.add_sub_cancel, List.getD_eq_getElem?_getD, List.getElem?_eq_getElem hj, Option.getD_some, decide_eq_decide]
    constructor
    · intro h; rw [h]; rfl
    · intro h; exact UInt8.toNat_inj.1 (by show w[j].toNat = 10; omega)
theorem w_PickR (s : Sp) (w : List UInt8) (i c : Int) (h : okSp s ∧ rightS s = true ∧ w.length ≤ 10000) : PCall Tryz.prog 14 [sV s, .str w, .int .i64 i, .int .i64 c] (.tup (.int .i64 (pickQ s w i c).1) [.int .i64 ((pickQ s w i c).2 : Nat)]) := by
  obtain ⟨hs, hri, hw⟩ := h
  have hcs := cSp_eq s
  have hM := iMy8_eq (u := s) (w := w) ⟨hs, by omega⟩
  have hr : (rightS s && decide ((w.length : Int) ≤ 10000)) = true := by rw [hri]; simp; omega
  rw [hr] at hM
  have hnc := hs.nc
  have hnr := hs.nr
  refine PCall.of_w (fn := Tryz.f14) (Γ := gam [(26, .pure iMy8), (29, .pure iActR), (30, .pure iLgR)]) (mu := false) (Sound.pure iMy8_call (Sound.pure iActR_call (Sound.pure iLgR_call Sound.nil))) mixed Tryz.func14 rfl (by kernel_rfl) (by simp) (by kernel_rfl) ?_
  by_cases h2 : 0 ≤ i ∧ i ≤ w.length ∧ 0 ≤ c ∧ c < s.conds.length
  · have hq : pickQ s w i c = pickP s w i.toNat c := by unfold pickQ; rw [if_pos ⟨⟨by omega, hri⟩, h2⟩]
    obtain ⟨h2, h3, h4, h5⟩ := h2
    obtain ⟨k, rfl⟩ := Int.eq_ofNat_of_zero_le h2
    have hk : k ≤ w.length := by omega
    rw [Int.toNat_natCast] at hq
    rw [hq]
    unfold pickP
    have hA := fun j => iActR_eq (u := s) (i := j) (c := c) hs
    simp (disch := first | assumption | omega | exact okR_new | exact okR_one | exact trivial | (simp only [lnA, lnC, lnN]; omega) | (simp only [lnA, lnC, lnN, Nat.reduceAdd])) only [go_sem, e_go, e_cond_bool, e_w_bool, e_step_ite, e_reg_ite, e_regW_ite, e_code_ite, e_block_ite, e_evQ_ite, e_fin_ite, e_pair_ite, Tryz.f14, iMy8_eq, iActR_eq, iLgR_eq, hcs, hM]
    refine w_loopc [] [10, 11, 12] (fun j : Nat => s.rules.length - j) (fun j => j ≤ s.rules.length) (fun j => ⟨[.cells 0 (cSp s)], []⟩)
      (fun j => [(10, .int .i64 (pickTo s w k c j).1), (11, .int .i64 ((pickTo s w k c j).2 : Nat)), (12, .int .i64 (j : Nat))]) 0 (fun _ => rfl) (by kernel_rfl) (Nat.zero_le _) ⟨[], [], by simp [hcs]⟩ (by simp [HasE, lk, pickTo]) ?_ ?_
    · intro j _
      refine ⟨?_, ?_, ?_⟩ <;> simp [cloE, clo, cloL, cloB, cSp_eq, c_Rno, c_flCd, c_flRu, c_sV]
    intro j hj
    by_cases hlt : j < s.rules.length
    · have hg : s.rules[j]? = some s.rules[j] := by simp [hlt]
      have hat := fl_at cRu_len hg
      have hle : j * 22 + 22 ≤ s.rules.length * 22 := by omega
      have hwj : IntKind.i64.wrap ((j : Int) + 1) = ((j + 1 : Nat) : Int) := by rw [IntWalk.i64_in _ (by omega)]; omega
      have hnx := pickTo_next (w := w) (at_ := k) (cond := c) hg
      have hA := hA j
      have hro := hs.ru _ (List.getElem_mem hlt)
      have hrr := fun he => rule_right hri hg he
      generalize s.rules[j] = r at *
      have hcr := cRu_eq r
      unfold pickStep mayB at hnx
      cases he : r.eof
      · have hrr := hrr he
        have hLg := iLgR_eq (u := r) (w := w) (i := k) ⟨⟨hro, hrr.1, hrr.2⟩, hw, hk⟩
        have hfr : AVal.agg (cRu r) = ruV r := rfl
        rw [hcr, he] at hfr
        simp only [he, Bool.not_false, Bool.true_and] at hnx
        cases ha : activeS s (j : Nat) c
        · rw [ha] at hA hnx
          simp only [Bool.and_false, Bool.false_eq_true, false_and, if_false] at hnx
          simp (disch := first | assumption | omega | exact okR_new | exact okR_one | exact trivial | (simp only [lnA, lnC, lnN]; omega) | (simp only [lnA, lnC, lnN, Nat.reduceAdd])) only [go_sem, e_go, e_cond_bool, e_w_bool, e_step_ite, e_reg_ite, e_regW_ite, e_code_ite, e_block_ite, e_evQ_ite, e_fin_ite, e_pair_ite, Tryz.f14, iMy8_eq, iActR_eq, iLgR_eq, hcs, hat, hcr, he, hwj, hA]
          exact ⟨j + 1, dn hlt, hlt, ⟨[_], [], rfl⟩, by simp [HasE, lk, hnx]⟩
        · rw [ha] at hA hnx
          simp only [Bool.and_true] at hnx
          have hgd : decide (((pickTo s w k c j).2 : Int) < (longP r (w.drop k) : Nat)) = decide ((pickTo s w k c j).2 < longP r (w.drop k)) := by rw [decide_eq_decide]; omega
          cases hb : r.bol
          · rw [hb] at hnx hfr
            simp only [Bool.not_false, Bool.or_true, true_and] at hnx
            by_cases hz : (pickTo s w k c j).2 < longP r (w.drop k)
            · rw [decide_eq_true hz] at hgd
              rw [if_pos hz] at hnx
              simp (disch := first | assumption | omega | exact okR_new | exact okR_one | exact trivial | (simp only [lnA, lnC, lnN]; omega) | (simp only [lnA, lnC, lnN, Nat.reduceAdd])) only [go_sem, e_go, e_cond_bool, e_w_bool, e_step_ite, e_reg_ite, e_regW_ite, e_code_ite, e_block_ite, e_evQ_ite, e_fin_ite, e_pair_ite, Tryz.f14, iMy8_eq, iActR_eq, iLgR_eq, hcs, hat, hcr, he, hwj, hA, hb, hfr, hLg, hgd]
              exact ⟨j + 1, dn hlt, hlt, ⟨[_], [], rfl⟩, by simp [HasE, lk, hnx]⟩
            · rw [decide_eq_false hz] at hgd
              rw [if_neg hz] at hnx
              simp (disch := first | assumption | omega | exact okR_new | exact okR_one | exact trivial | (simp only [lnA, lnC, lnN]; omega) | (simp only [lnA, lnC, lnN, Nat.reduceAdd])) only [go_sem, e_go, e_cond_bool, e_w_bool, e_step_ite, e_reg_ite, e_regW_ite, e_code_ite, e_block_ite, e_evQ_ite, e_fin_ite, e_pair_ite, Tryz.f14, iMy8_eq, iActR_eq, iLgR_eq, hcs, hat, hcr, he, hwj, hA, hb, hfr, hLg, hgd]
              exact ⟨j + 1, dn hlt, hlt, ⟨[_], [], rfl⟩, by simp [HasE, lk, hnx]⟩
          · rw [hb] at hnx hfr
            simp only [Bool.not_true, Bool.or_false] at hnx
            rcases bol_cases hk with ⟨k0, hbl⟩ | ⟨q, b, k0, hqb, hbl⟩
            · simp only [hbl, true_and] at hnx
              have d7 : decide ((0 : Int) < (k : Nat)) = false := decide_eq_false (by omega)
              by_cases hz : (pickTo s w k c j).2 < longP r (w.drop k)
              · rw [decide_eq_true hz] at hgd
                rw [if_pos hz] at hnx
                simp (disch := first | assumption | omega | exact okR_new | exact okR_one | exact trivial | (simp only [lnA, lnC, lnN]; omega) | (simp only [lnA, lnC, lnN, Nat.reduceAdd])) only [go_sem, e_go, e_cond_bool, e_w_bool, e_step_ite, e_reg_ite, e_regW_ite, e_code_ite, e_block_ite, e_evQ_ite, e_fin_ite, e_pair_ite, Tryz.f14, iMy8_eq, iActR_eq, iLgR_eq, hcs, hat, hcr, he, hwj, hA, hb, hfr, hLg, hgd, d7]
                exact ⟨j + 1, dn hlt, hlt, ⟨[_], [], rfl⟩, by simp [HasE, lk, hnx]⟩
              · rw [decide_eq_false hz] at hgd
                rw [if_neg hz] at hnx
                simp (disch := first | assumption | omega | exact okR_new | exact okR_one | exact trivial | (simp only [lnA, lnC, lnN]; omega) | (simp only [lnA, lnC, lnN, Nat.reduceAdd])) only [go_sem, e_go, e_cond_bool, e_w_bool, e_step_ite, e_reg_ite, e_regW_ite, e_code_ite, e_block_ite, e_evQ_ite, e_fin_ite, e_pair_ite, Tryz.f14, iMy8_eq, iActR_eq, iLgR_eq, hcs, hat, hcr, he, hwj, hA, hb, hfr, hLg, hgd, d7]
                exact ⟨j + 1, dn hlt, hlt, ⟨[_], [], rfl⟩, by simp [HasE, lk, hnx]⟩
            · have d7 : decide ((0 : Int) < (k : Nat)) = true := decide_eq_true (by omega)
              have hwk : IntKind.i64.wrap ((k : Int) - 1) = (q : Nat) := by rw [IntWalk.i64_in _ (by omega)]; omega
              cases d9 : decide (((b.toNat : Nat) : Int) = 10)
              · rw [d9] at hbl
                simp only [hbl, Bool.false_eq_true, false_and, if_false] at hnx
                simp (disch := first | assumption | omega | exact okR_new | exact okR_one | exact trivial | (simp only [lnA, lnC, lnN]; omega) | (simp only [lnA, lnC, lnN, Nat.reduceAdd])) only [go_sem, e_go, e_cond_bool, e_w_bool, e_step_ite, e_reg_ite, e_regW_ite, e_code_ite, e_block_ite, e_evQ_ite, e_fin_ite, e_pair_ite, Tryz.f14, iMy8_eq, iActR_eq, iLgR_eq, hcs, hat, hcr, he, hwj, hA, hb, hfr, hLg, hgd, d7, hwk, hqb, d9]
                exact ⟨j + 1, dn hlt, hlt, ⟨[_], [], rfl⟩, by simp [HasE, lk, hnx]⟩
              · rw [d9] at hbl
                simp only [hbl, true_and] at hnx
                by_cases hz : (pickTo s w k c j).2 < longP r (w.drop k)
                · rw [decide_eq_true hz] at hgd
                  rw [if_pos hz] at hnx
                  simp (disch := first | assumption | omega | exact okR_new | exact okR_one | exact trivial | (simp only [lnA, lnC, lnN]; omega) | (simp only [lnA, lnC, lnN, Nat.reduceAdd])) only [go_sem, e_go, e_cond_bool, e_w_bool, e_step_ite, e_reg_ite, e_regW_ite, e_code_ite, e_block_ite, e_evQ_ite, e_fin_ite, e_pair_ite, Tryz.f14, iMy8_eq, iActR_eq, iLgR_eq, hcs, hat, hcr, he, hwj, hA, hb, hfr, hLg, hgd, d7, hwk, hqb, d9]
                  exact ⟨j + 1, dn hlt, hlt, ⟨[_], [], rfl⟩, by simp [HasE, lk, hnx]⟩
                · rw [decide_eq_false hz] at hgd
                  rw [if_neg hz] at hnx
                  simp (disch := first | assumption | omega | exact okR_new | exact okR_one | exact trivial | (simp only [lnA, lnC, lnN]; omega) | (simp only [lnA, lnC, lnN, Nat.reduceAdd])) only [go_sem, e_go, e_cond_bool, e_w_bool, e_step_ite, e_reg_ite, e_regW_ite, e_code_ite, e_block_ite, e_evQ_ite, e_fin_ite, e_pair_ite, Tryz.f14, iMy8_eq, iActR_eq, iLgR_eq, hcs, hat, hcr, he, hwj, hA, hb, hfr, hLg, hgd, d7, hwk, hqb, d9]
                  exact ⟨j + 1, dn hlt, hlt, ⟨[_], [], rfl⟩, by simp [HasE, lk, hnx]⟩
      · simp only [he, Bool.not_true, Bool.false_and, Bool.false_eq_true, false_and, if_false] at hnx
        simp (disch := first | assumption | omega | exact okR_new | exact okR_one | exact trivial | (simp only [lnA, lnC, lnN]; omega) | (simp only [lnA, lnC, lnN, Nat.reduceAdd])) only [go_sem, e_go, e_cond_bool, e_w_bool, e_step_ite, e_reg_ite, e_regW_ite, e_code_ite, e_block_ite, e_evQ_ite, e_fin_ite, e_pair_ite, Tryz.f14, iMy8_eq, iActR_eq, iLgR_eq, hcs, hat, hcr, he, hwj]
        exact ⟨j + 1, dn hlt, hlt, ⟨[_], [], rfl⟩, by simp [HasE, lk, hnx]⟩
    · have hi' : j = s.rules.length := by omega
      subst hi'
      simp (disch := first | assumption | omega | exact okR_new | exact okR_one | exact trivial | (simp only [lnA, lnC, lnN]; omega) | (simp only [lnA, lnC, lnN, Nat.reduceAdd])) only [go_sem, e_go, e_cond_bool, e_w_bool, e_step_ite, e_reg_ite, e_regW_ite, e_code_ite, e_block_ite, e_evQ_ite, e_fin_ite, e_pair_ite, Tryz.f14, iMy8_eq, iActR_eq, iLgR_eq, hcs]
  · have hq : pickQ s w i c = (-1, 0) := by unfold pickQ; rw [if_neg (fun h => h2 h.2)]
    rw [hq]
    (simp (disch := first | assumption | omega | exact okR_new | exact okR_one | exact trivial | (simp only [lnA, lnC, lnN]; omega) | (simp only [lnA, lnC, lnN, Nat.reduceAdd])) only [go_sem, e_bin_bool, Bool.true_and, Bool.and_true, Bool.false_and, Bool.and_false, Bool.true_or, Bool.or_true, Bool.false_or, Bool.or_false, Bool.not_eq_eq_eq_not, Bool.not_not, z_or, z_and, z_beq_t, z_beq_f, decide_eq_true_eq, decide_eq_false_iff_not, ite_not, Bool.not_eq_true', Bool.or_eq_true, Bool.and_eq_true, i_t, i_f, Tryz.f14, iMy8_eq, iActR_eq, iLgR_eq, hcs, hM] <;> (repeat' ((first | refine w_cond_cases ?_ ?_ | refine w_go_cases ?_ ?_ | refine w_pick_cases ?_ ?_) <;> intro hq <;> (try simp only [decide_eq_true_eq, decide_eq_false_iff_not, Bool.not_eq_true', Bool.not_eq_false', Bool.or_eq_true, Bool.and_eq_true, Bool.or_eq_false_iff, Bool.and_eq_false_iff, Bool.not_eq_eq_eq_not, Bool.not_true, Bool.not_false, Bool.not_not] at hq) <;> (first | simp (disch := first | assumption | omega | exact okR_new | exact okR_one | exact trivial | (simp only [lnA, lnC, lnN]; omega) | (simp only [lnA, lnC, lnN, Nat.reduceAdd])) only [show (_ : Bool) = true from hq, go_sem, e_bin_bool, Bool.true_and, Bool.and_true, Bool.false_and, Bool.and_false, Bool.true_or, Bool.or_true, Bool.false_or, Bool.or_false, Bool.not_eq_eq_eq_not, Bool.not_not, z_or, z_and, z_beq_t, z_beq_f, decide_eq_true_eq, decide_eq_false_iff_not, ite_not, Bool.not_eq_true', Bool.or_eq_true, Bool.and_eq_true, i_t, i_f, Tryz.f14, iMy8_eq, iActR_eq, iLgR_eq, hcs, hM] | simp (disch := first | assumption | omega | exact okR_new | exact okR_one | exact trivial | (simp only [lnA, lnC, lnN]; omega) | (simp only [lnA, lnC, lnN, Nat.reduceAdd])) only [show (_ : Bool) = false from hq, go_sem, e_bin_bool, Bool.true_and, Bool.and_true, Bool.false_and, Bool.and_false, Bool.true_or, Bool.or_true, Bool.false_or, Bool.or_false, Bool.not_eq_eq_eq_not, Bool.not_not, z_or, z_and, z_beq_t, z_beq_f, decide_eq_true_eq, decide_eq_false_iff_not, ite_not, Bool.not_eq_true', Bool.or_eq_true, Bool.and_eq_true, i_t, i_f, Tryz.f14, iMy8_eq, iActR_eq, iLgR_eq, hcs, hM] | simp (disch := first | assumption | omega | exact okR_new | exact okR_one | exact trivial | (simp only [lnA, lnC, lnN]; omega) | (simp only [lnA, lnC, lnN, Nat.reduceAdd])) only [go_sem, e_bin_bool, Bool.true_and, Bool.and_true, Bool.false_and, Bool.and_false, Bool.true_or, Bool.or_true, Bool.false_or, Bool.or_false, Bool.not_eq_eq_eq_not, Bool.not_not, z_or, z_and, z_beq_t, z_beq_f, decide_eq_true_eq, decide_eq_false_iff_not, ite_not, Bool.not_eq_true', Bool.or_eq_true, Bool.and_eq_true, i_t, i_f, Tryz.f14, iMy8_eq, iActR_eq, iLgR_eq, hcs, hM] | skip))))
    all_goals first | rfl | (exfalso; omega)
end Go.Hk.MZ
