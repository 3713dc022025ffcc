/- Layer 5: what is told at the beginning; two answers held against one another. -/
import Derived.Test.YtbnhflckmfmkoaaHkCN8
import Derived.Test.YtbnhflckmfmkoaaHkMe
set_option linter.unusedSimpArgs false
set_option linter.unusedVariables false
set_option maxRecDepth 20000
namespace Go.Hk.C
open Go.Proofs

theorem w_Ints (a b : List Int) (h : a.length < 100000000) : PCall Try.prog 16 [slc cI a, slc cI b] (.bool (decide (a = b))) := by
  refine PCall.of_w (fn := Try.f16) (Γ := gam []) (mu := false) Sound.nil mixed Try.func16 rfl (by kernel_rfl) (by simp) (by kernel_rfl) ?_
  by_cases hl : a.length = b.length
  · have hd : decide ((a.length : Int) = (b.length : Int)) = true := by simp; omega
    simp (disch := first | assumption | omega | exact okR_new | exact okR_one | exact trivial | (simp only [List.length_append, List.length_cons, List.length_nil]; omega) | (simp only [List.length_append, List.length_cons, List.length_nil, Nat.reduceAdd])) only [go_sem, e_go, e_cond_bool, e_w_bool, e_step_ite, e_reg_ite, e_regW_ite, e_code_ite, e_block_ite, e_evQ_ite, e_fin_ite, e_pair_ite, Try.f16, hd]
    refine w_loop [4] [5] (fun i : Nat => a.length - i) (fun i => i ≤ a.length ∧ a.take i = b.take i) (fun i => ⟨[], []⟩)
      (fun i => [(5, .int .i64 (i : Nat))]) 0 (fun _ => rfl) (by kernel_rfl) ⟨Nat.zero_le _, rfl⟩ rfl (by simp [HasE, lk]) ?_
    rintro i ⟨hi, hq⟩
    by_cases h1 : i < a.length
    · have h2 : i < b.length := by omega
      have hg := fl_cI_get (l := a) (i := i) (x := a[i]) (by simp [h1])
      have hg2 := fl_cI_get (l := b) (i := i) (x := b[i]) (by simp [h2])
      have hw : IntKind.i64.wrap ((i : Int) + 1) = (i : Int) + 1 := IntWalk.i64_in _ (by omega)
      by_cases he : a[i] = b[i]
      · have hd2 : decide (a[i] = b[i]) = true := decide_eq_true he
        simp (disch := first | assumption | omega | exact okR_new | exact okR_one | exact trivial | (simp only [List.length_append, List.length_cons, List.length_nil]; omega) | (simp only [List.length_append, List.length_cons, List.length_nil, Nat.reduceAdd])) only [go_sem, e_go, e_cond_bool, e_w_bool, e_step_ite, e_reg_ite, e_regW_ite, e_code_ite, e_block_ite, e_evQ_ite, e_fin_ite, e_pair_ite, Try.f16, hg, hg2, hw, hd2]
        exact ⟨i + 1, dn h1, ⟨h1, by rw [List.take_succ_eq_append_getElem h1, List.take_succ_eq_append_getElem h2, hq, he]⟩, rfl, by simp [HasE, lk]⟩
      · have hd2 : decide (a[i] = b[i]) = false := decide_eq_false he
        have hne : decide (a = b) = false := decide_eq_false fun e => he (by subst e; rfl)
        simp (disch := first | assumption | omega | exact okR_new | exact okR_one | exact trivial | (simp only [List.length_append, List.length_cons, List.length_nil]; omega) | (simp only [List.length_append, List.length_cons, List.length_nil, Nat.reduceAdd])) only [go_sem, e_go, e_cond_bool, e_w_bool, e_step_ite, e_reg_ite, e_regW_ite, e_code_ite, e_block_ite, e_evQ_ite, e_fin_ite, e_pair_ite, Try.f16, hg, hg2, hw, hd2, hne]
    · have hi' : i = a.length := by omega
      subst hi'
      rw [List.take_length, hl, List.take_length] at hq
      have he : decide (a = b) = true := decide_eq_true hq
      simp (disch := first | assumption | omega | exact okR_new | exact okR_one | exact trivial | (simp only [List.length_append, List.length_cons, List.length_nil]; omega) | (simp only [List.length_append, List.length_cons, List.length_nil, Nat.reduceAdd])) only [go_sem, e_go, e_cond_bool, e_w_bool, e_step_ite, e_reg_ite, e_regW_ite, e_code_ite, e_block_ite, e_evQ_ite, e_fin_ite, e_pair_ite, Try.f16, he]
  · have hd : decide ((a.length : Int) = (b.length : Int)) = false := by simp; omega
    have hne : decide (a = b) = false := decide_eq_false fun e => hl (by rw [e])
    simp (disch := first | assumption | omega | exact okR_new | exact okR_one | exact trivial | (simp only [List.length_append, List.length_cons, List.length_nil]; omega) | (simp only [List.length_append, List.length_cons, List.length_nil, Nat.reduceAdd])) only [go_sem, e_go, e_cond_bool, e_w_bool, e_step_ite, e_reg_ite, e_regW_ite, e_code_ite, e_block_ite, e_evQ_ite, e_fin_ite, e_pair_ite, Try.f16, hd, hne]
noncomputable def iInts : List AVal → Option AVal := pimp fun xs r => ∃ (a b : List Int), (a.length < 100000000) ∧ xs = [slc cI a, slc cI b] ∧ r = .bool (decide (a = b))
theorem iInts_eq {a b : List Int} (h : a.length < 100000000) : iInts [slc cI a, slc cI b] = some (.bool (decide (a = b))) := pimp_eq ⟨a, b, h, rfl, rfl⟩ (by rintro _ ⟨a', b', h', e, rfl⟩; have e0 := (List.cons.inj e).1; have e0r := (List.cons.inj e).2; have e1 := (List.cons.inj e0r).1; have e1r := (List.cons.inj e0r).2; have q0 := slc_inj cI_len (fun _ _ _ _ => cI_inj) e0; have q1 := slc_inj cI_len (fun _ _ _ _ => cI_inj) e1; subst q0; subst q1; first | rfl | exact ⟨rfl, rfl⟩)
theorem iInts_call : ∀ xs v, iInts xs = some v → PCall Try.prog 16 xs v := fun xs v h0 => by obtain ⟨a, b, h, rfl, rfl⟩ := pimp_spec h0; exact w_Ints a b h
theorem w_Text (l : List UInt8) (hl : l.length < 9223372036854775808) : PCall Try.prog 10 [slc cU l] (.str (textT l)) := by
  refine PCall.of_w (fn := Try.f10) (Γ := gam []) (mu := false) Sound.nil mixed Try.func10 rfl (by kernel_rfl) (by simp) (by kernel_rfl) ?_
  simp (disch := first | assumption | omega | exact okR_new | exact okR_one | exact trivial | (simp only [List.length_append, List.length_cons, List.length_nil]; omega) | (simp only [List.length_append, List.length_cons, List.length_nil, Nat.reduceAdd])) only [go_sem, e_go, e_cond_bool, e_w_bool, e_step_ite, e_reg_ite, e_regW_ite, e_code_ite, e_block_ite, e_evQ_ite, e_fin_ite, e_pair_ite, Try.f10]
  refine w_loop [] [3, 4] (fun i : Nat => l.length - i) (fun i => i ≤ l.length ∧ i ≤ 12) (fun i => ⟨[], []⟩)
    (fun i => [(3, .str (textT (l.take i))), (4, .int .i64 (i : Nat))]) 0 (fun _ => rfl) (by kernel_rfl) ⟨Nat.zero_le _, Nat.zero_le _⟩ rfl (by simp [HasE, lk, textT]) ?_
  rintro i ⟨hi, hi2⟩
  by_cases h1 : i < l.length
  · by_cases h2 : i < 12
    · have hg : (fl cU l)[i]? = some (.int .u8 (l[i].toNat : Nat)) := by rw [fl_cU_map]; simp [h1]
      have hu := l[i].toNat_lt
      have hw : IntKind.i64.wrap ((i : Int) + 1) = (i : Int) + 1 := IntWalk.i64_in _ (by omega)
      have hw2 : IntKind.i64.wrap ((l[i].toNat : Nat) : Int) = ((l[i].toNat : Nat) : Int) := IntWalk.i64_in _ (by omega)
      have hnx := textT_next h1 h2
      have htm : ((l[i].toNat : Nat) : Int).tmod 12 = ((l[i].toNat % 12 : Nat) : Int) := rfl
      have hm : l[i].toNat % 12 < 12 := Nat.mod_lt _ (by decide)
      have htl := textT_len (l.take i)
      obtain ⟨m, hmm⟩ : ∃ m, l[i].toNat % 12 = m := ⟨_, rfl⟩
      rw [hmm] at htm hm hnx
      have hw3 : IntKind.i64.wrap ((m : Int) + 1) = (m : Int) + 1 := IntWalk.i64_in _ (by omega)
      have hi1 : (if 0 ≤ (m : Int) + 1 ∧ (m : Int) + 1 ≤ ((12 : Nat) : Int) then some ((m : Int) + 1).toNat else none) = some (m + 1) := by rw [if_pos (by omega)]; congr 1
      have hi3 : (if 0 ≤ (m : Int) ∧ (m : Int) ≤ ((m + 1 : Nat) : Int) then some ((m : Int)).toNat else none) = some m := by rw [if_pos (by omega)]; congr 1
      have hsl : List.take (m + 1 - m) (List.drop m [97, 97, 98, 98, 99, 99, 45, 90, 10, 48, 0, 255]) = [alph.getD m 0] := by rw [Nat.add_sub_cancel_left]; exact alph_at m hm
      simp (disch := first | assumption | omega | exact okR_new | exact okR_one | exact trivial | (simp only [List.length_append, List.length_cons, List.length_nil]; omega) | (simp only [List.length_append, List.length_cons, List.length_nil, Nat.reduceAdd])) only [go_sem, e_go, e_cond_bool, e_w_bool, e_step_ite, e_reg_ite, e_regW_ite, e_code_ite, e_block_ite, e_evQ_ite, e_fin_ite, e_pair_ite, Try.f10, hg, hw, hw2, htm, hw3, hi1, hi3, hsl]
      exact ⟨i + 1, dn h1, ⟨h1, h2⟩, rfl, by simp [HasE, lk, hnx]⟩
    · have hz := textT_all (l := l) (i := i) (.inr (by omega))
      simp (disch := first | assumption | omega | exact okR_new | exact okR_one | exact trivial | (simp only [List.length_append, List.length_cons, List.length_nil]; omega) | (simp only [List.length_append, List.length_cons, List.length_nil, Nat.reduceAdd])) only [go_sem, e_go, e_cond_bool, e_w_bool, e_step_ite, e_reg_ite, e_regW_ite, e_code_ite, e_block_ite, e_evQ_ite, e_fin_ite, e_pair_ite, Try.f10, hz]
  · have hz := textT_all (l := l) (i := i) (.inl (by omega))
    simp (disch := first | assumption | omega | exact okR_new | exact okR_one | exact trivial | (simp only [List.length_append, List.length_cons, List.length_nil]; omega) | (simp only [List.length_append, List.length_cons, List.length_nil, Nat.reduceAdd])) only [go_sem, e_go, e_cond_bool, e_w_bool, e_step_ite, e_reg_ite, e_regW_ite, e_code_ite, e_block_ite, e_evQ_ite, e_fin_ite, e_pair_ite, Try.f10, hz]
noncomputable def iText : List AVal → Option AVal := pimp fun xs r => ∃ (l : List UInt8), (l.length < 9223372036854775808) ∧ xs = [slc cU l] ∧ r = .str (textT l)
theorem iText_eq {l : List UInt8} (h : l.length < 9223372036854775808) : iText [slc cU l] = some (.str (textT l)) := pimp_eq ⟨l, h, rfl, rfl⟩ (by rintro _ ⟨l', h', e, rfl⟩; have e0 := (List.cons.inj e).1; have e0r := (List.cons.inj e).2; have q0 := slc_inj cU_len (fun _ _ _ _ => cU_inj) e0; subst q0; first | rfl | exact ⟨rfl, rfl⟩)
theorem iText_call : ∀ xs v, iText xs = some v → PCall Try.prog 10 xs v := fun xs v h0 => by obtain ⟨l, h, rfl, rfl⟩ := pimp_spec h0; exact w_Text l h
theorem w_chr5 (b : Int) : PCall Try.prog 15 [.int .i64 b] (rV (chX b)) := by
  refine PCall.of_w (fn := Try.f15) (Γ := gam [(27, .pure iOf)]) (mu := false) (Sound.pure iOf_call Sound.nil) mixed Try.func15 rfl (by kernel_rfl) (by simp) (by kernel_rfl) ?_
  simp (disch := first | assumption | omega | exact okR_new | exact okR_one | exact trivial | (simp only [List.length_append, List.length_cons, List.length_nil]; omega) | (simp only [List.length_append, List.length_cons, List.length_nil, Nat.reduceAdd])) only [go_sem, e_go, e_cond_bool, e_w_bool, e_step_ite, e_reg_ite, e_regW_ite, e_code_ite, e_block_ite, e_evQ_ite, e_fin_ite, e_pair_ite, Try.f15, iOf_eq, setL]
  rfl
noncomputable def iChr5 : List AVal → Option AVal := pimp fun xs r => ∃ (b : Int), (True) ∧ xs = [.int .i64 b] ∧ r = rV (chX b)
theorem iChr5_eq {b : Int} (h : True) : iChr5 [.int .i64 b] = some (rV (chX b)) := pimp_eq ⟨b, h, rfl, rfl⟩ (by rintro _ ⟨b', h', e, rfl⟩; have e0 := (List.cons.inj e).1; have e0r := (List.cons.inj e).2; have q0 := (AVal.int.inj e0).2; subst q0; first | rfl | exact ⟨rfl, rfl⟩)
theorem iChr5_call : ∀ xs v, iChr5 xs = some v → PCall Try.prog 15 xs v := fun xs v h0 => by obtain ⟨b, h, rfl, rfl⟩ := pimp_spec h0; exact w_chr5 b
theorem stK_fold : AVal.agg [.int .i64 3, .int .u64 0, .int .u64 0, .int .u64 0, .int .u64 0, .int .i64 0, .int .i64 0, .sl .no 2 [.int .i64 2, .int .u64 ((wd (ofN 97 97) 0 : Nat) : Int), .int .u64 ((wd (ofN 97 97) 1 : Nat) : Int), .int .u64 ((wd (ofN 97 97) 2 : Nat) : Int), .int .u64 ((wd (ofN 97 97) 3 : Nat) : Int), .int .i64 0, .int .i64 0, .sl .no 0 [], .int .i64 2, .int .u64 ((wd (ofN 98 98) 0 : Nat) : Int), .int .u64 ((wd (ofN 98 98) 1 : Nat) : Int), .int .u64 ((wd (ofN 98 98) 2 : Nat) : Int), .int .u64 ((wd (ofN 98 98) 3 : Nat) : Int), .int .i64 0, .int .i64 0, .sl .no 0 []]] = rV stK := rfl
theorem stX_fold : AVal.agg [.int .i64 5, .int .u64 0, .int .u64 0, .int .u64 0, .int .u64 0, .int .i64 0, .int .i64 (-1), .sl .no 1 [.int .i64 3, .int .u64 0, .int .u64 0, .int .u64 0, .int .u64 0, .int .i64 0, .int .i64 0, .sl .no 2 [.int .i64 2, .int .u64 ((wd (ofN 97 97) 0 : Nat) : Int), .int .u64 ((wd (ofN 97 97) 1 : Nat) : Int), .int .u64 ((wd (ofN 97 97) 2 : Nat) : Int), .int .u64 ((wd (ofN 97 97) 3 : Nat) : Int), .int .i64 0, .int .i64 0, .sl .no 0 [], .int .i64 2, .int .u64 ((wd (ofN 98 98) 0 : Nat) : Int), .int .u64 ((wd (ofN 98 98) 1 : Nat) : Int), .int .u64 ((wd (ofN 98 98) 2 : Nat) : Int), .int .u64 ((wd (ofN 98 98) 3 : Nat) : Int), .int .i64 0, .int .i64 0, .sl .no 0 []]]] = rV stX := rfl
theorem bI3 {m : AMem} {a b c : Int} : abuildSlice Try.prog false m 37 3 [(0, .int .i64 a), (1, .int .i64 b), (2, .int .i64 c)] = some (.sl .full 3 [.int .i64 a, .int .i64 b, .int .i64 c], m) := by
  simp [abuildSlice, ti37, ti3, zeroRow, afill, cellsOf, setMany, List.range, List.range.loop]
theorem bI1 {m : AMem} {a : Int} : abuildSlice Try.prog false m 37 1 [(0, .int .i64 a)] = some (.sl .full 1 [.int .i64 a], m) := by
  simp [abuildSlice, ti37, ti3, zeroRow, afill, cellsOf, setMany, List.range, List.range.loop]
theorem fI3 : iInts [.sl .no 3 (fl cI [0, 2, 4]), .sl .no 3 [.int .i64 0, .int .i64 2, .int .i64 4]] = some (.bool true) := iInts_eq (a := [0, 2, 4]) (b := [0, 2, 4]) (by decide)
theorem fI1 : iInts [.sl .no 1 (fl cI [1]), .sl .no 1 [.int .i64 1]] = some (.bool true) := iInts_eq (a := [1]) (b := [1]) (by decide)
theorem w_awake5 : PCall Try.prog 7 [] (.bool true) := by
  have h1 := stX_ok
  have hc : ∀ s : List UInt8, s.length < 9223372036854775808 → okX stX ∧ s.length < 9223372036854775808 := fun s h => ⟨h1, h⟩
  have e0 := iEnds_eq (i := 0) (hc [97, 98, 97, 98, 97] (by decide))
  have e1 := iEnds_eq (i := 1) (hc [97, 98, 97, 98, 97] (by decide))
  have e2 := iMat_eq (hc [97, 98, 97, 98] (by decide))
  have e3 := iMat_eq (hc [97, 98, 97] (by decide))
  have e4 := iEnds_eq (i := 2) (hc [97] (by decide))
  rw [aw_e0] at e0
  rw [aw_e1] at e1
  rw [aw_m0] at e2
  rw [aw_m1] at e3
  rw [aw_n] at e4
  have d2 : decide ((([97, 98, 97, 98] : List UInt8).length : Int) ∈ ([0, 2, 4] : List Int)) = true := by decide
  have d3 : decide ((([97, 98, 97] : List UInt8).length : Int) ∈ ([0, 2] : List Int)) = false := by decide
  rw [d2] at e2
  rw [d3] at e3
  refine PCall.of_w (fn := Try.f7) (Γ := gam [(11, .pure iMat), (13, .pure iEnds), (15, .pure iChr5), (16, .pure iInts)]) (mu := false) (Sound.pure iMat_call (Sound.pure iEnds_call (Sound.pure iChr5_call (Sound.pure iInts_call Sound.nil)))) mixed Try.func7 rfl (by kernel_rfl) (by simp) (by kernel_rfl) ?_
  simp (disch := first | assumption | omega | exact okR_new | exact okR_one | exact trivial | (simp only [List.length_append, List.length_cons, List.length_nil]; omega) | (simp only [List.length_append, List.length_cons, List.length_nil, Nat.reduceAdd])) only [go_sem, e_go, e_cond_bool, e_w_bool, e_step_ite, e_reg_ite, e_regW_ite, e_code_ite, e_block_ite, e_evQ_ite, e_fin_ite, e_pair_ite, Try.f7, iMat_eq, iEnds_eq, iChr5_eq, iInts_eq, setL, bR2, chX_cells, bA1, bR1, List.cons_append, List.nil_append, stK_fold, stX_fold, e0, e1, e2, e3, e4, bI3, bI1, fI3, fI1]
noncomputable def iAw5 : List AVal → Option AVal := pimp fun xs r => (True) ∧ xs = [] ∧ r = .bool true
theorem iAw5_eq  (h : True) : iAw5 [] = some (.bool true) := pimp_eq ⟨h, rfl, rfl⟩ (by rintro _ ⟨h', e, rfl⟩; first | rfl | exact ⟨rfl, rfl⟩)
theorem iAw5_call : ∀ xs v, iAw5 xs = some v → PCall Try.prog 7 xs v := fun xs v h0 => by obtain ⟨h, rfl, rfl⟩ := pimp_spec h0; exact w_awake5
end Go.Hk.C
