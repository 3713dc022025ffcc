/- Layer 5: again and again. -/
import Derived.Test.YtbnhflckmfmkoaaHkCN10
import Derived.Test.YtbnhflckmfmkoaaHkCN9
import Derived.Test.YtbnhflckmfmkoaaHkCM3
import Derived.Test.YtbnhflckmfmkoaaHkMh
set_option linter.unusedSimpArgs false
set_option linter.unusedVariables false
set_option maxRecDepth 20000
namespace Go.Hk.C
open Go.Proofs

theorem opX_fold : AVal.agg [.int .i64 5, .int .u64 0, .int .u64 0, .int .u64 0, .int .u64 0, .int .i64 0, .int .i64 1, .sl .no 1 [.int .i64 2, .int .u64 ((wd (ofN 97 97) 0 : Nat) : Int), .int .u64 ((wd (ofN 97 97) 1 : Nat) : Int), .int .u64 ((wd (ofN 97 97) 2 : Nat) : Int), .int .u64 ((wd (ofN 97 97) 3 : Nat) : Int), .int .i64 0, .int .i64 0, .sl .no 0 []]] = rV opX := rfl
theorem w_opt : PCall Try.prog 12 [] (rV opX) := by
  refine PCall.of_w (fn := Try.f12) (Γ := gam [(15, .pure iChr5)]) (mu := false) (Sound.pure iChr5_call Sound.nil) mixed Try.func12 rfl (by kernel_rfl) (by simp) (by kernel_rfl) ?_
  simp (disch := first | assumption | omega | exact okR_new | exact okR_one | exact trivial | (simp only [List.length_append, List.length_cons, List.length_nil]; omega) | (simp only [List.length_append, List.length_cons, List.length_nil, Nat.reduceAdd])) only [go_sem, e_go, e_cond_bool, e_w_bool, e_step_ite, e_reg_ite, e_regW_ite, e_code_ite, e_block_ite, e_evQ_ite, e_fin_ite, e_pair_ite, Try.f12, iChr5_eq, bR1, chX_cells, opX_fold]
noncomputable def iOpt : List AVal → Option AVal := pimp fun xs r => (True) ∧ xs = [] ∧ r = rV opX
theorem iOpt_eq  (h : True) : iOpt [] = some (rV opX) := pimp_eq ⟨h, rfl, rfl⟩ (by rintro _ ⟨h', e, rfl⟩; first | rfl | exact ⟨rfl, rfl⟩)
theorem iOpt_call : ∀ xs v, iOpt xs = some v → PCall Try.prog 12 xs v := fun xs v h0 => by obtain ⟨h, rfl, rfl⟩ := pimp_spec h0; exact w_opt
theorem w_MatchTimes (l t : List UInt8) (a b : Nat) (hl : l.length < 9223372036854775808) (ht : t.length < 9223372036854775808) (ha : a < 256) (hb : b < 256) : PCall Try.prog 5 [slc cU l, slc cU t, .int .u8 (a : Nat), .int .u8 (b : Nat)] (.bool true) := by
  obtain ⟨hg, hsz⟩ := madeX_deep l
  obtain ⟨h1, h2, h3, h4⟩ := madeX_good l
  have htl := textT_len t
  have hmade := iMade_eq (L := l) hl
  have htext := iText_eq (l := t) ht
  generalize madeX l = x at *
  generalize textT t = s at *
  have hr : inR x := ⟨5, hg.right⟩
  have hwa : IntKind.i64.wrap (a : Int) = (a : Int) := IntWalk.i64_in _ (by omega)
  have hwb : IntKind.i64.wrap (b : Int) = (b : Int) := IntWalk.i64_in _ (by omega)
  have hma : ((a : Nat) : Int).tmod 4 = ((a % 4 : Nat) : Int) := rfl
  have hmb : ((b : Nat) : Int).tmod 3 = ((b % 3 : Nat) : Int) := rfl
  have hK : a % 4 < 4 := Nat.mod_lt _ (by decide)
  have hM : b % 3 < 3 := Nat.mod_lt _ (by decide)
  generalize a % 4 = K at *
  generalize b % 3 = M at *
  have hw1 : IntKind.i64.wrap ((K : Int) + 1) = (K : Int) + 1 := IntWalk.i64_in _ (by omega)
  have hw2 : IntKind.i64.wrap ((K : Int) + 1 + (M : Int)) = (K : Int) + 1 + (M : Int) := IntWalk.i64_in _ (by omega)
  have hstar := star_good hg
  have hsr := rightT_of hstar (by omega) (by omega) (star_size (x := x) (by omega))
  have hao : okX (.mk 5 0 (K : Int) ((K : Int) + 1 + (M : Int)) [x]) := rep_ok h1 (by omega) (by omega)
  have hnil : ([] : List UInt8).length ≤ 10000 := by decide
  have hop : iMat [rV opX, .str []] = some (.bool true) := by
    rw [iMat_eq ⟨opX_ok, by decide⟩]
    exact congrArg _ (congrArg _ (decide_eq_true ((match_iff opX_right hnil).2 opX_null)))
  have hst0 : iMat [rV (.mk 5 0 0 (-1) [x]), .str []] = some (.bool true) := by
    rw [iMat_eq ⟨hstar.ok, by decide⟩]
    refine congrArg _ (congrArg _ (decide_eq_true ((match_iff hsr hnil).2 ((null_R _ ⟨6, hstar.right⟩).2 ?_))))
    rw [null_eq]; rfl
  have hx0 : iMat [rV x, .str []] = some (.bool (null x)) := by
    rw [iMat_eq ⟨h1, by decide⟩]
    refine congrArg _ (congrArg _ ?_)
    rw [Bool.eq_iff_iff, decide_eq_true_eq, match_iff h2 hnil]
    exact null_R x hr
  have hnu := iNuR_eq (x := x) ⟨h1, hr⟩
  have hMs := iMat_eq (x := .mk 5 0 0 (-1) [x]) (s := s) ⟨hstar.ok, by omega⟩
  have hMa := iMat_eq (x := .mk 5 0 (K : Int) ((K : Int) + 1 + (M : Int)) [x]) (s := s) ⟨hao, by omega⟩
  have himp : (s.length : Int) ∈ endsL (.mk 5 0 (K : Int) ((K : Int) + 1 + (M : Int)) [x]) s 0 → (s.length : Int) ∈ endsL (.mk 5 0 0 (-1) [x]) s 0 := fun h => by
    cases hra : rightT (.mk 5 0 (K : Int) ((K : Int) + 1 + (M : Int)) [x])
    · exact absurd h (match_not hra)
    · exact (match_iff hsr (by omega)).2 (times_any hr (by omega) (by omega) ((match_iff hra (by omega)).1 h))
  obtain ⟨ma, hma2⟩ : ∃ v, decide ((s.length : Int) ∈ endsL (.mk 5 0 (K : Int) ((K : Int) + 1 + (M : Int)) [x]) s 0) = v := ⟨_, rfl⟩
  obtain ⟨ms, hms2⟩ : ∃ v, decide ((s.length : Int) ∈ endsL (.mk 5 0 0 (-1) [x]) s 0) = v := ⟨_, rfl⟩
  rw [hma2] at hMa
  rw [hms2] at hMs
  have himp2 : ma = true → ms = true := fun h => by rw [← hms2]; exact decide_eq_true (himp (of_decide_eq_true (hma2.trans h)))
  refine PCall.of_w (fn := Try.f5) (Γ := gam [(7, .pure iAw5), (9, .pure iMade), (10, .pure iText), (11, .pure iMat), (12, .pure iOpt), (13, .pure iEnds), (14, .pure iNuR)]) (mu := false) (Sound.pure iAw5_call (Sound.pure iMade_call (Sound.pure iText_call (Sound.pure iMat_call (Sound.pure iOpt_call (Sound.pure iEnds_call (Sound.pure iNuR_call Sound.nil))))))) mixed Try.func5 rfl (by kernel_rfl) (by simp) (by kernel_rfl) ?_
  simp (disch := first | assumption | omega | exact okR_new | exact okR_one | exact trivial | (simp only [List.length_append, List.length_cons, List.length_nil]; omega) | (simp only [List.length_append, List.length_cons, List.length_nil, Nat.reduceAdd])) only [go_sem, e_go, e_cond_bool, e_w_bool, e_step_ite, e_reg_ite, e_regW_ite, e_code_ite, e_block_ite, e_evQ_ite, e_fin_ite, e_pair_ite, Try.f5, iAw5_eq, iMade_eq, iText_eq, iMat_eq, iOpt_eq, iEnds_eq, iNuR_eq, hmade, htext, hwa, hwb, hma, hmb, hw1, hw2, bR1, rV_rep, hop, hst0]
  refine w_loop [8] [16] (fun i : Nat => s.length + 1 - i) (fun i => i ≤ s.length + 1) (fun i => ⟨[.cells 0 (cR x), .cells 0 [.int .i64 5, .int .u64 0, .int .u64 0, .int .u64 0, .int .u64 0, .int .i64 0, .int .i64 (-1), .sl .full 1 (cR x)], .cells 0 [.int .i64 5, .int .u64 0, .int .u64 0, .int .u64 0, .int .u64 0, .int .i64 (K : Int), .int .i64 ((K : Int) + 1 + (M : Int)), .sl .full 1 (cR x)]], []⟩)
    (fun i => [(16, .int .i64 (i : Nat))]) 0 (fun _ => rfl) (by kernel_rfl) (Nat.zero_le _) rfl (by simp [HasE, lk]) ?_
  intro i hi
  by_cases hin : i ≤ s.length
  · have hE := iEnds_eq (x := x) (s := s) (i := (i : Int)) ⟨h1, by omega⟩
    have hF := iEnds_eq (x := x) (s := s.drop i) (i := 0) ⟨h1, by simp; omega⟩
    have hsh := ends_shift h2 (by omega : s.length ≤ 10000) hin
    have hbd : ∀ z ∈ endsL x (s.drop i) 0, 0 ≤ z ∧ z ≤ 12 := fun z hz => by
      have := ends_right (x := x) (s := s.drop i) (i := 0) h2 (by simp; omega) (Nat.zero_le _)
      rw [show ((0 : Nat) : Int) = 0 from rfl] at this
      rw [this] at hz
      obtain ⟨j, j1, j2⟩ := List.mem_map.1 hz
      have := (cset_mem.1 j1).1
      simp at this
      omega
    rw [hsh] at hE
    have hFl := endsL_len x (s.drop i) 0
    generalize endsL x (s.drop i) 0 = F at *
    obtain ⟨E, hEE⟩ : ∃ E, F.map (fun j => j + (i : Int)) = E := ⟨_, rfl⟩
    have hEl : E.length = F.length := by rw [← hEE, List.length_map]
    rw [hEE] at hE
    have hi1 : (if 0 ≤ (i : Int) ∧ (i : Int) ≤ ((s.length : Nat) : Int) then some ((i : Int)).toNat else none) = some i := by rw [if_pos (by omega)]; congr 1
    have hw : IntKind.i64.wrap ((i : Int) + 1) = (i : Int) + 1 := IntWalk.i64_in _ (by omega)
    have hcut : List.take (s.length - i) (List.drop i s) = s.drop i := List.take_of_length_le (by simp)
    have hdl : decide ((F.length : Int) = (F.length : Int)) = true := decide_eq_true rfl
    simp (disch := first | assumption | omega | exact okR_new | exact okR_one | exact trivial | (simp only [List.length_append, List.length_cons, List.length_nil]; omega) | (simp only [List.length_append, List.length_cons, List.length_nil, Nat.reduceAdd])) only [go_sem, e_go, e_cond_bool, e_w_bool, e_step_ite, e_reg_ite, e_regW_ite, e_code_ite, e_block_ite, e_evQ_ite, e_fin_ite, e_pair_ite, Try.f5, iAw5_eq, iMade_eq, iText_eq, iMat_eq, iOpt_eq, iEnds_eq, iNuR_eq, hE, hF, hEl, hi1, hcut, hdl]
    refine w_loop [8] [19] (fun j : Nat => F.length - j) (fun j => j ≤ F.length) (fun j => ⟨[.cells 0 (cR x), .cells 0 [.int .i64 5, .int .u64 0, .int .u64 0, .int .u64 0, .int .u64 0, .int .i64 0, .int .i64 (-1), .sl .full 1 (cR x)], .cells 0 [.int .i64 5, .int .u64 0, .int .u64 0, .int .u64 0, .int .u64 0, .int .i64 (K : Int), .int .i64 ((K : Int) + 1 + (M : Int)), .sl .full 1 (cR x)]], []⟩)
      (fun j => [(19, .int .i64 (j : Nat))]) 0 (fun _ => rfl) (by kernel_rfl) (Nat.zero_le _) rfl (by simp [HasE, lk]) ?_
    intro j hj
    by_cases h5 : j < F.length
    · have hbj := hbd F[j] (List.getElem_mem h5)
      have hgF : (fl cI F)[j]? = some (.int .i64 F[j]) := fl_cI_get (List.getElem?_eq_getElem h5)
      have hgE : (fl cI E)[j]? = some (.int .i64 (F[j] + (i : Int))) := fl_cI_get (by rw [← hEE, List.getElem?_map, List.getElem?_eq_getElem h5]; rfl)
      have hwj : IntKind.i64.wrap ((j : Int) + 1) = (j : Int) + 1 := IntWalk.i64_in _ (by omega)
      have hwf : IntKind.i64.wrap (F[j] + (i : Int)) = F[j] + (i : Int) := IntWalk.i64_in _ (by omega)
      have hde : decide (F[j] + (i : Int) = F[j] + (i : Int)) = true := decide_eq_true rfl
      simp (disch := first | assumption | omega | exact okR_new | exact okR_one | exact trivial | (simp only [List.length_append, List.length_cons, List.length_nil]; omega) | (simp only [List.length_append, List.length_cons, List.length_nil, Nat.reduceAdd])) only [go_sem, e_go, e_cond_bool, e_w_bool, e_step_ite, e_reg_ite, e_regW_ite, e_code_ite, e_block_ite, e_evQ_ite, e_fin_ite, e_pair_ite, Try.f5, iAw5_eq, iMade_eq, iText_eq, iMat_eq, iOpt_eq, iEnds_eq, iNuR_eq, hgF, hgE, hwj, hwf, hEl, hde]
      exact ⟨j + 1, (by show F.length - (j + 1) < F.length - j; omega), h5, rfl, by simp [HasE, lk, put, ev, hwj]⟩
    · have hj' : j = F.length := by omega
      subst hj'
      simp (disch := first | assumption | omega | exact okR_new | exact okR_one | exact trivial | (simp only [List.length_append, List.length_cons, List.length_nil]; omega) | (simp only [List.length_append, List.length_cons, List.length_nil, Nat.reduceAdd])) only [go_sem, e_go, e_cond_bool, e_w_bool, e_step_ite, e_reg_ite, e_regW_ite, e_code_ite, e_block_ite, e_evQ_ite, e_fin_ite, e_pair_ite, Try.f5, iAw5_eq, iMade_eq, iText_eq, iMat_eq, iOpt_eq, iEnds_eq, iNuR_eq, hEl, hw]
      exact ⟨i + 1, (by show s.length + 1 - (i + 1) < s.length + 1 - i; omega), (by omega), rfl, by simp [HasE, lk, put, ev, hw]⟩
  · have hi' : i = s.length + 1 := by omega
    subst hi'
    cases ma
    · cases hn : null x <;>
      · simp only [hn] at hx0 hnu
        simp (disch := first | assumption | omega | exact okR_new | exact okR_one | exact trivial | (simp only [List.length_append, List.length_cons, List.length_nil]; omega) | (simp only [List.length_append, List.length_cons, List.length_nil, Nat.reduceAdd])) only [go_sem, e_go, e_cond_bool, e_w_bool, e_step_ite, e_reg_ite, e_regW_ite, e_code_ite, e_block_ite, e_evQ_ite, e_fin_ite, e_pair_ite, Try.f5, iAw5_eq, iMade_eq, iText_eq, iMat_eq, iOpt_eq, iEnds_eq, iNuR_eq, e_bin_bool, rV_rep, hMa, hMs, hx0, hnu]
    · obtain rfl := himp2 rfl
      cases hn : null x <;>
      · simp only [hn] at hx0 hnu
        simp (disch := first | assumption | omega | exact okR_new | exact okR_one | exact trivial | (simp only [List.length_append, List.length_cons, List.length_nil]; omega) | (simp only [List.length_append, List.length_cons, List.length_nil, Nat.reduceAdd])) only [go_sem, e_go, e_cond_bool, e_w_bool, e_step_ite, e_reg_ite, e_regW_ite, e_code_ite, e_block_ite, e_evQ_ite, e_fin_ite, e_pair_ite, Try.f5, iAw5_eq, iMade_eq, iText_eq, iMat_eq, iOpt_eq, iEnds_eq, iNuR_eq, e_bin_bool, rV_rep, hMa, hMs, hx0, hnu]
end Go.Hk.C
